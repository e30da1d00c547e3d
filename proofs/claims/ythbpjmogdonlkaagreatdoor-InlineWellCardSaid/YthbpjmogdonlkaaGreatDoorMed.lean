/- Texts joined by a program (merge.py). -/
import Derived.Test.YthbpjmogdonlkaaGreatDoorMec
import Derived.Laws.MakeOwn
import Derived.Test.YthbpjmogdonlkaaGreatDoorMea
import Derived.Lib.Builder
import Derived.Lib.UnsafeStr
import Derived.Lib.AppendStr
import Derived.WalkKit
import Derived.Laws.Externs
import Derived.RegionTactic
import Derived.KernelRfl
import Derived.Lib.OthersKept
import Derived.Lib.IndexAny
import Derived.Shelf.Strings.Search2
import Derived.Shelf.Strings.Replace
import Derived.Shelf.Strings.Prefix
import Derived.Shelf.Strings.Repeat
set_option linter.unusedSimpArgs false
set_option linter.unusedVariables false
set_option maxRecDepth 100000
set_option maxHeartbeats 4000000
set_option linter.defProp false
open ByteArray renaming size->Za,extract->Zd,size_push->Xk,push->Im,size_extract->Dx,ext->Fg
open Int renaming toNat->Zb,tmod_lt_of_pos->I7,toNat_natCast->Jn,tmod_nonneg->J8,le_refl->D2
open _root_ renaming ByteArray->Zc,List->F,Nat->I,Int->J,cond->Zp,of_decide_eq_true->Zr,trivial->Zt,decide_eq_true_eq->Zu,of_decide_eq_false->Zx,cond_true->Z1,cond_false->Z2,if_neg->Z3,decide_eq_true->Z5,ne_of_beq_false->Ya,or_false->Yf,decide_eq_false->Yj,Array->Yp,absurd->Yq,Bool->Yr,if_pos->Yu,True->Y6,true_and->Xb,UInt8->Ql,Option->Qt,beq_false_of_ne->Q9,bne_self_eq_false'->I0,bne_iff_ne->I1,beq_iff_eq->I2,if_false->Ja,congrArg->Jb,Unit->Je
open Go.Proofs.Tryz renaming prog->Ze,f277->Z8,f224->Yd,f187->Y1,f147->Y2,f128->Xh,func38->Xp,underlying78->Qm,func128->Q4,underlying174->I3,underlying132->I4,ntmps38->Jf,func250->Jg,underlying5->Jp,func83->Jz,zeroValue5->J0,f199->Di,sizeOf5->Do,func187->Dp,isAgg5->Dy
open Decidable renaming decide->Zf
open Bool renaming false->V,true->Zi,and_eq_true->Zk,not_eq_true'->Yb,or_eq_true->Yc,or_eq_false_iff->Ip,false_eq_true->I9
open Array renaming getD_eq_getD_getElem?->Zg,getElem?_setIfInBounds_ne->Z0,getElem?_setIfInBounds_self_of_lt->Z7,getElem?_eq_getElem->Yg,getElem?_modify->Yy,replicate->Y3,getElem?_eq_some_iff->Xg,mapM_eq_mapM_toList->Qk,ext'->D7
open Option renaming some->H,none->Zw,getD_some->Y7,isSome_iff_exists->Xl,map_some->Qb,map_eq_some_iff->Q6
open Nat renaming lt_succ_self->Zh,le_refl->Zn,le_of_ble_eq_true->Z4,beq->Qq,lt_irrefl->Qv,lt_or_ge->Q7,zero_add->Ji,lt_trichotomy->Jj,le_trans->Jk,mod_eq_of_lt->Jr,min_eq_left->J1
open List renaming all_eq_true->Zj,mem_cons->Zl,not_mem_nil->Zs,range->Zz,getD_eq_getElem?_getD->Z6,replicate->Z9,getElem?_set->Yh,getElem?_eq_getElem->Yi,mem_append->Yk,nodup_append->Yn,mem_range->Yo,dropLast_cons_of_ne_nil->Yt,mem_map->Yv,getElem?_eq_some_iff->Y0,map_inj_left->Y4,cons_append->Y8,getElem?_eq_none->Xe,append_assoc->Xf,length_cons->Xi,getElem?_append_left->Xj,nodup_cons->Xn,take_append_drop->Xt,mem_of_mem_take->Xy,mem_of_getElem?->Xz,lookup->Qa,sublist_append_right->Qf,pairwise_iff_getElem->Qg,isEmpty_eq_false_iff->Qh,getElem?_map->Qr,any_eq_false->Qs,map_cons->Qw,eq_of_mem_replicate->Qx,take_of_length_le->Q8,length_nil->Ib,singleton_append->Ic,mem_of_mem_tail->Ig,length->Ih,dropLast_subset->Ii,contains_eq_mem->Ij,countP_pos_iff->Iu,countP_eq_zero->Iv,getElem?_take->I5,getElem?_drop->I6,size_toArray->Jl,ext_getElem?->Jm,take_length->Js,mem_flatMap->Jt,lookup_cons->Ju,length_take->Jv,any_eq_true->Jw,nil_append->J2,map_append->J3,lookup_nil->J4,length_set->J5,length_map->J6,append_nil->J7,tail_cons->Dc,map_map->Dt
open Option.some renaming injEq->Zm,inj->Ys
open Go.Utf8 renaming decode->Zo,encode->Zv,runeError->Da
open Go.Proofs.YthbpjmogdonlkaaGreatDoor renaming DPiece->Zq,DEm->Ym,DInline->Y5
open Prod.mk renaming injEq->Zy
open Go renaming Program->Ye,Oper->Yz,World->Xc,Value->Xx,Exit->Qj,Operand->Qp,undef->Q0,Func->Iy,FuncId->I8,TypeId->Db,Code->De,mem_ready->Dh,Calls->Dl,wpAny_of_seq->Dm
open UInt8 renaming ofNat->Yl
open Go.Eng renaming byt->Yw,ABox->Xa,RepSs->Xs,Weak->Xu,OkSV->Qu,Key->Qz,RepS->Q3,OUT->Ir,Keep->Iw,NXW->Jo,Step->Jq,Kont->Dg,Sound->Dj,RepB->Dr,BEG->D3,DR3->D4,RepL->D5,LEAF->D6,Uni->D8,Rep->D9,Ghost->Fb,Rel->Fc,BEGb->Ff
open Go.Builtin renaming unsafeString_->Yx,unsafeSliceData_->Xm
open Go.Lib renaming cell_of_heap->Y9,indexByte->Xw,run_unsafeSliceData_row->Qd,index->Qe,run_unsafeString_none->Qi,replaceAll->Ik,hasPrefix->Df,NoAny->Dk,replaceK->Du,repeatL->D0
open Go.Oper renaming upon_value->Xd,wp->Ds
open Go.Proofs.YthbpjmogdonlkaaGreatDoor.DInline renaming mk->Xo
open Go.Eng.SV renaming keys->Xq
open Go.IntKind renaming wrap->Xr,signed->Dd,bits->Dv
open Go.Eng.St renaming put->Xv,setBox->Iq,ev->Fe
open Go.Region renaming ready->Qc,seqB->Qo,binds->Jh
open Go.Result renaming andThen_ok->Qn,andThen->Ie
open List.Sublist renaming append_left->Qy
open Go.Eng.Step renaming refl->Q1
open Go.Sem renaming run_bind->Q5,run_pure->Dq,run_map->Dz
open Go.Obj.cells renaming injEq->Ia
open Go.Eng.Gh renaming bindc->Il,setU->J9,bind->Dw
open Go.World renaming setCell->Iz,shape?->Jc,freeze->Jd,cell?->Jy
namespace Go.Eng
section
def reSt(X:Cf)(S':St):Cf:=match X with
 |some (c,o,.at d ks _)=>H (c,o,.at d ks S')
 |_=>Zw
def Vpw{P:Ye}{α:Type}{K:α->Qj->St->Prop}{M:α}{X:Cf}{S':St}(hg:Fb (stOf X) S')(hn:Nx P K M (reSt X S')):Nx P K M X:=by
 obtain⟨hn⟩:=hn;unfold reSt at hn
 split at hn
 ·rename_i c o d ks S;exact⟨W_ghost hg hn⟩
 ·exact hn.elim
def ghost_tell{S:St}{t b e sz:I}(hs:Vcl S (H t)=.nil)(hb:b<1000)(hn:S.names b=V):Fb S ((S.put (H t) (.vs b 0)).addBox b (.vec e sz [])):=by
 intro G w a hr
 let G':Gh:={G with ow:=λκ=>if κ=(b,0)then Zw else G.ow κ}
 have how:∀ κ c,G'.ow κ=H c->G.ow κ=H c:=by
  intro κ c h;simp only[G']at h
  split at h
  ·cases h
  ·exact h
 have hkp:∀ κ,κ≠(b,0)->Iw G w G' w κ:=λκ hκ=>⟨by simp only[G'];rw[Z3 hκ],λ_ _=>⟨rfl,rfl⟩⟩
 have hstep:Jq G w G' w:=⟨⟨λ_=>Zn _,Imm.refl _ _,Zn _,rfl,rfl,rfl,λ_ _=>rfl,λ_=>Zn _,λκ h0 _=>hkp κ (by intro e;rw[e]at h0;simp at h0)⟩,λ_ _ _=>⟨rfl,rfl⟩,λκ c h=>.inl ⟨κ,how κ c h⟩⟩
 have hwf:Wf G' w:=⟨λκ κ' c h h'=>hr.wf.inj κ κ' c (how κ c h) (how κ' c h'),λκ c h=>hr.wf.lt κ c (how κ c h),hr.wf.zero⟩
 have hr1:Fc G' w S a:=hr.but hn hstep.toExt hwf hkp rfl;have hbx:Dr G' w b (.vec e sz []):=Or.inl ⟨rfl,by simp[G']⟩;have hput:Fc G' w (S.put (H t) (.vs b 0)) a:=by
  refine⟨hr1.wf,by simp only[Xv,J5];exact hr1.size,λu s hu=>?_,hr1.bx,hr1.gn,hr1.defers⟩;simp only[Xv]at hu;rw[Yh]at hu
  split at hu
  ·rename_i hd;subst hd
   split at hu
   ·rename_i hlt;simp only[Zm]at hu;subst hu;have h0:S.fr[t]? =H .nil:=by
     simp only[Vcl,Z6]at hs;rw[Yi hlt]at hs ⊢;simpa using hs
    have:=hr1.fr t _ h0;exact Or.inl ⟨rfl,this,by simp[G']⟩
   ·cases hu
  ·exact hr1.fr u s hu
 exact⟨G',hstep,hput.add hbx,λi hi=>by simp only[G'];rw[Z3 (by intro h;simp at h;omega)]⟩
def vecOf(S:St)(t b:I):Qt (I×F AV):=match Vcl S (H t),S.bx.lookup b with
 | .vs b' n,H (.vec _ _ l)=>match Zf (b'=b)with
  |true=>H (n,l)
  |false=>Zw
 |_,_=>Zw
def Vjz{S:St}{t b n:I}{l:F AV}(hv:vecOf S t b=H (n,l))(hn:n<=l.length):Fb S ((S.forget b).put (H t) (.av (.sl (l.take n)))):=by
 intro G w a hr;unfold vecOf at hv
 split at hv
 ·rename_i b' n' e sz l' hs hb
  split at hv
  ·rename_i hd;have:=Zr hd;subst this;simp only[Zm,Zy]at hv;obtain⟨rfl,rfl⟩:=hv;have hbox:=hr.bx _ (Vag hb);have put:∀ {G':Gh},Fc G' w (S.forget b') a->(∀u,Q3 G w (.vs b' n') u->D9 G'.U w (.sl (l'.take n')) u)->Fc G' w ((S.forget b').put (H t) (.av (.sl (l'.take n')))) a:=by
    intro G' h1 h2;refine⟨h1.wf,by simp only[Xv,J5];exact h1.size,λu s hu=>?_,h1.bx,h1.gn,h1.defers⟩;simp only[Xv]at hu;rw[Yh]at hu
    split at hu
    ·rename_i hd;subst hd
     split at hu
     ·rename_i hlt;simp only[Zm]at hu;subst hu;have hlt':t<S.fr.length:=by simpa[St.forget]using hlt
      have h0:S.fr[t]? =H (.vs b' n'):=by
       simp only[Vcl,Z6]at hs;rw[Yi hlt']at hs ⊢;simpa using hs
      exact h2 _ (hr.fr t _ h0)
     ·cases hu
    ·exact h1.fr u s hu
   rcases hbox with⟨hl,how⟩|⟨blk,arr,es,g0,g1,g2,g3,g4,g5,g6,⟨rest,g7⟩,g8⟩
   ·refine⟨G,Q1 G w,put (hr.forget b') (λu hu=>?_),λ_ _=>rfl⟩;simp only at hl how;subst hl;rcases hu with⟨rfl,rfl,_⟩|⟨blk,_,h,_⟩
    ·simpa using Vfj _ _
    ·rw[how]at h;cases h
   ·simp only at g1;have hU:∀ c,G.U c<=(G.setU blk (Va3 (es.take n')).length).U c:=by
     intro c;simp only[J9];split
     ·rename_i h;rw[h,g3];omega
     ·omega
    have hkp:∀ κ,κ≠(b',0)->Iw G w (G.setU blk (Va3 (es.take n')).length) w κ:=λκ hκ=>⟨rfl,λc hc=>⟨rfl,by
     simp only[J9];rw[Z3 (λhe=>hκ (hr.wf.inj κ (b',0) c hc (by rw[he];exact g1)))]⟩⟩
    have hstep:Jq G w (G.setU blk (Va3 (es.take n')).length) w:=⟨⟨hU,Imm.refl _ _,Zn _,rfl,rfl,rfl,λ_ _=>rfl,λ_=>Zn _,λκ h0 _=>hkp κ (by intro e;rw[e]at h0;simp at h0)⟩,
     λc _ hn=>⟨rfl,by simp only[J9];rw[Z3 (λhe=>hn (b',0) (by rw[he];exact g1))]⟩,λκ c h=>.inl ⟨κ,h⟩⟩
    have hwf:Wf (G.setU blk (Va3 (es.take n')).length) w:=⟨hr.wf.inj,hr.wf.lt,λc hc=>by simp only[J9];rw[Z3 kv];exact hr.wf.zero c hc⟩
    refine⟨_,hstep,put ((hr.forget b').but (Vhc S b') hstep.toExt hwf hkp rfl) (λu hu=>?_),λ_ _=>rfl⟩;rcases hu with⟨rfl,rfl,h⟩|⟨blk',h0,h,rfl,h3⟩
    ·rw[g1]at h;cases h
    ·rw[g1]at h;simp only[Zm]at h;subst h;simp only[D9];have hlen:(l'.take n').length=n':=by simp;omega
     have htake:=Vet es n' g6;refine⟨H ⟨blk,0,Zw⟩,G.cp blk,es.take n',sz,by rw[hlen],(RepL.mono hU (Imm.refl _ _) _ _ g5).take n',λx hx=>g6 x (Xy hx),ku,by rw[hlen];exact h3,λ_ ad had=>by simp at had;subst had;rfl,.inr ⟨blk,0,rfl,by simp[J9],λj x hj=>?_⟩⟩;have hj':=hj;rw[htake,I5]at hj'
     split at hj'
     ·have hlt2:j<(Va3 es).length:=by
       rcases Q7 j (Va3 es).length with q|q
       ·exact q
       ·rw[Xe q]at hj';cases hj'
      have harr:arr.toList[j]? =H x:=by rw[g7,Xj hlt2];exact hj'
      exact⟨by simpa[Jy,g2]using harr,g8 x (Xz hj')⟩
     ·cases hj'
  ·cases hv
 ·cases hv
def tell_weak{S:St}{b e sz:I}{l l':F AV}(hb:S.bx.lookup b=H (.vec e sz l))(h:l=l'):Xu S (S.setBox b (.vec e sz l')):=by
 subst h;intro G w a hr;refine⟨hr.wf,hr.size,hr.fr,λp hp=>?_,hr.gn,hr.defers⟩;simp only[Iq,Yv]at hp;obtain⟨q,hq,rfl⟩:=hp
 split
 ·rename_i hqb;rw[hqb];exact hr.bx _ (Vag hb)
 ·exact hr.bx q hq
def TELL{P:Ye}{α:Type}{K:α->Qj->St->Prop}{M:α}{X:Cf}(t b e sz:I)(h:(Vcl (stOf X) (H t),Zf (b<1000),(stOf X).names b)=(.nil,Zi,V))(hn:Nx P K M (reSt X (((stOf X).put (H t) (.vs b 0)).addBox b (.vec e sz [])))):Nx P K M X:=by
 simp only[Zy]at h;exact Vpw (ghost_tell h.1 (Zr h.2.1) h.2.2) hn
def FRZ{P:Ye}{α:Type}{K:α->Qj->St->Prop}{M:α}{X:Cf}(t b:I){n:I}{l l':F AV}(h:vecOf (stOf X) t b=H (n,l))(hn:n<=l.length)(hl:l.take n=l')(hx:Nx P K M (reSt X (((stOf X).forget b).put (H t) (.av (.sl l'))))):Nx P K M X:=by
 subst hl;exact Vpw (Vjz h hn) hx
def vbox(S:St)(b:I):Qt (I×I×F AV):=match S.bx.lookup b with
 |some (.vec e sz l)=>H (e,sz,l)
 |_=>Zw
def BOX{P:Ye}{α:Type}{K:α->Qj->St->Prop}{M:α}{X:Cf}(b:I){e sz:I}{l l':F AV}(h:vbox (stOf X) b=H (e,sz,l))(hl:l=l')(hn:Nx P K M (reSt X ((stOf X).setBox b (.vec e sz l')))):Nx P K M X:=by
 have hb:(stOf X).bx.lookup b=H (.vec e sz l):=by
  unfold vbox at h;split at h
  ·rename_i h2;simp only[Zm,Zy]at h;obtain⟨rfl,rfl,rfl⟩:=h;exact h2
  ·cases h
 obtain⟨hn⟩:=hn;unfold reSt at hn
 split at hn
 ·rename_i c o d ks S;exact⟨Vaj (tell_weak hb hl) hn⟩
 ·exact hn.elim
end
section
variable {P:Ye}
def step_bindc2{G:Gh}{w:Xc}(hw:Wf G w)(o:Obj)(id c:I):
  Jq G w (G.bindc id w.heap.size c) (w.alloc o)/\Wf (G.bindc id w.heap.size c) (w.alloc o)/\∀ κ,κ≠(id,0)->Iw G w (G.bindc id w.heap.size c) (w.alloc o) κ:=by
 obtain⟨s1,s2,s3⟩:=Vee hw o id;exact⟨⟨⟨s1.U,s1.imm,s1.size,s1.os,s1.tape,s1.output,λb hb=>Z3 kv,s1.gen,s1.tok⟩,s1.stay,s1.rng⟩,⟨s2.inj,s2.lt,s2.zero⟩,s3⟩
def Vhm{o:Yz}{S:St}{t e:Db}{sz bt:I}{z:Xx}{x y:Qp}{k k':IntKind}{m n id:I}{X:Xa}(ho:o.op=.makeSlice t x y)(hx:S.ev x=.av (.val (.int k (m:J))))(hy:S.ev y=.av (.val (.int k' (n:J))))(hmn:m<=n)
  (ht:Vbe P t=H e) (hi:Van P e=H (sz,bt,H z)) (hb:bt*n<=281474976710656) (h63:n<=9223372036854775807) (hid:id<1000) (hn:S.names id=V)
  (hX:∀(G:Gh)(w:Xc)(blk:I),blk<w.heap.size->G.ow (id,0)=H blk->w.heap[blk]? =H (.cells (madeCells z.cells (n*sz)) e (0,0))->G.U blk=0->G.cp blk=n->Dr G w id X):Dj P o S ⟨Y6,.vs id m,S.addBox id X⟩:=by
 intro _ G w a hr;have h1:=hr.ev x;rw[hx]at h1;simp only[Q3,D9]at h1;have h2:=hr.ev y;rw[hy]at h2;simp only[Q3,D9]at h2;obtain⟨i,e1,e2,e3,e4⟩:∃ i,P.info? e=H i/\i.size=sz/\i.bytes=bt/\i.zero=H z:=by
  unfold Van at hi;cases hI:P.info? e with
  |none=>rw[hI]at hi;simp at hi
  |some i=>rw[hI]at hi;simp at hi;exact⟨i,rfl,hi.1,hi.2.1,hi.2.2⟩
 subst e2 e3;have hbi:(i.bytes:J)*(n:J)<=281474976710656:=by
  have h:((i.bytes*n:I):J)<=281474976710656:=kv;rwa[Int.natCast_mul]at h
 have hrun:=run_make (P:=P) w t e i z (Vi2 ht) e1 e4 k k' m n kv kv hbi kv;simp only[Jn]at hrun;obtain⟨s1,s2,s3⟩:=step_bindc2 hr.wf (.cells (madeCells z.cells (n*i.size)) e) id n;have hr1:=hr.but hn s1.toExt s2 s3 rfl;refine⟨_,_,_,_,?_,.inl rfl,s1,hr1.add (hX _ _ w.heap.size ku (by simp[Il]) (Vax w _) ?_ (by simp[Il])),.inr ⟨w.heap.size,ku,by simp[Il],rfl,by simp[Il];omega⟩,λj hj=>?_⟩
 ·simp only[execOp,ho,h1.1,h2.1,hrun];simp[hrun,Il]
 ·exact hr.wf.zero _ (Zn _)
 ·simp only[Il];rw[Z3 (by intro h;simp only[Zy]at h;omega)]
def made_head(zc:Yp Xx)(n:I)(h1:1<=n):∃ rest,(madeCells zc (n*zc.size)).toList=zc.toList++rest:=by
 refine⟨(madeCells zc (n*zc.size)).toList.drop zc.size,?_⟩;have h:(madeCells zc (n*zc.size)).toList.take zc.size=zc.toList:=by
  have hle:zc.size<=n*zc.size:=by
   have:=Nat.mul_le_mul_right zc.size h1;omega
  apply List.ext_getElem
  ·simp[madeCells];omega
  ·intro i h1 h2;have:i<zc.size:=by simpa using h2
   simp[madeCells,Jr this,this]
 rw[<-h,Xt]
def rowK(b e:I)(j:I):Key:=(b+j,e+1)
def Vdj(b e:I)(R:I->F AV)(n:I):F SV:=(Zz n).map (λj=>SV.own (rowK b e j) (R j).length 1 (R j))
def rowsG(b e:I)(R:I->F AV)(n:I):F (Qz×I):=(Zz n).map (λj=>(rowK b e j,(R j).length))
def rows_sl{G:Gh}{w:Xc}:∀(ks:F (Qz×F AV)){us:F Xx},Xs G w (ks.map (λp=>SV.own p.1 p.2.length 1 p.2)) us->D5 G.U w (ks.map (λp=>AV.sl p.2)) us
 |[],us,h=>by
  have h:us=[]:=h;subst h;simp[D5]
 |k::ks,us,h=>by
  obtain⟨u,us',rfl,h1,h2⟩:=h;simp only[Qw,D5];exact⟨u,us',rfl,RepS.own_sl h1,rows_sl ks h2⟩
def rowsA(R:I->F AV)(n:I):F AV:=(Zz n).map (λj=>AV.sl (R j))
def rowsS_rep{G:Gh}{w:Xc}{b e:I}{R:I->F AV}{n:I}{us:F Xx}(h:Xs G w (Vdj b e R n) us):D5 G.U w (rowsA R n) us:=by
 have:=rows_sl (G:=G) (w:=w) ((Zz n).map (λj=>(rowK b e j,R j))) (us:=us) (by rw[Dt];exact h);rw[Dt]at this;exact this
def Vas{ops:Yp Yz}{o:Yz}{rest:F Yz}{Q:St->Prop}{S:St}(v:SV)(d:I)(hg:(o.guard,o.dst)=(Zw,H d))(h:Vb8 P o S=H ⟨Y6,v,S⟩)(hn:WO P ops rest Q (S.put (H d) v)):WO P ops (o::rest) Q S:=by
 simp only[Zy]at hg;refine Vc3 hg.1 (Vay h) Zt ?_;rw[hg.2];exact hn
def WO_pureP{ops:Yp Yz}{o:Yz}{rest:F Yz}{Q:St->Prop}{S:St}{p:Prop}(v:SV)(d:I)(hp:p)(hg:(o.guard,o.dst)=(Zw,H d))(h:Vb8 P o S=H ⟨p,v,S⟩)(hn:WO P ops rest Q (S.put (H d) v)):WO P ops (o::rest) Q S:=by
 simp only[Zy]at hg;refine Vc3 hg.1 (Vay h) hp ?_;rw[hg.2];exact hn
def Vbs{ops:Yp Yz}{o:Yz}{rest:F Yz}{Q:St->Prop}{S S':St}(v:SV)(d:I)(hg:(o.guard,o.dst)=(Zw,H d))(h:Dj P o S ⟨Y6,v,S'⟩)(hn:WO P ops rest Q (S'.put (H d) v)):WO P ops (o::rest) Q S:=by
 simp only[Zy]at hg;refine Vc3 hg.1 h Zt ?_;rw[hg.2];exact hn
def WKg{S:St}{n:I}{l:F (I×SV)}{bx:F (I×Xa)}{gn:F (Qz×I)}(h:(S.fr.length,(Vjp l).map (λk=>S.fr[k]?),(Vry bx).map (λb=>S.bx.lookup b))=(n,Vjm l,Vrx bx))(hg:∀ k:Qz,S.gen k=(gn.lookup k).getD 0):Xu S (sx n l bx gn):=by
 simp only[Zy]at h;obtain⟨h1,h2,h3⟩:=h;have hw:=Vgi (S:=S) (n:=n) (l:=l) (bx:=bx) (gn:=S.gn) (by simp only[seesB,h1,h2,h3]);intro G w a hr;have hr2:=hw G w a hr;exact⟨hr2.wf,hr2.size,hr2.fr,hr2.bx,λk=>by rw[hr2.gn k];exact hg k,hr2.defers⟩
def rowsS_get{b e:I}{R:I->F AV}{n i:I}(h:i<n):(Vdj b e R n)[i]? =H (.own (rowK b e i) (R i).length 1 (R i)):=by simp[Vdj,h]
def Vqy(S:St)(k κ:Qz):(S.next k).gen κ=if κ=k then S.gen k+1 else S.gen κ:=by
 have h:=Vf5 (G:={U:=λ_=>0,cp:=λ_=>0,ow:=λ_=>Zw,gen:=S.gen,df:=[]}) (S:=S) (λ_=>rfl) k 0 κ;rw[<-h];simp only[Gh.next]
 by_cases hk:κ=k
 ·rw[Yu hk,Yu hk,hk]
 ·rw[Z3 hk,Z3 hk]
def WO_ownN{ops:Yp Yz}{o:Yz}{rest:F Yz}{Q:St->Prop}{S S':St}{v:SV}(hg:(o.guard,o.dst)=(Zw,Zw))(h:Dj P o S ⟨Y6,v,S'⟩)(hn:WO P ops rest Q S'):WO P ops (o::rest) Q S:=by
 simp only[Zy]at hg;refine Vc3 hg.1 h Zt ?_;rw[hg.2];exact hn
end
section
def Vml(P:Ye)(f:I8)(args:F SV)(nb:F (I×Xa))(res:SV):Prop:=
 Vij P f/\∀(G:Gh)(w:Xc)(vs:F Xx),Wf G w->Xs G w args vs->
  Dl P f vs.toArray w (λe w'=>∃ v G',e=.returned v/\Jq G w G' w'/\Wf G' w'/\Q3 G' w' res v/\(∀p∈nb,Dr G' w' p.1 p.2)/\
   (∀κ:Qz,(κ.1 ∉ nb.map (·.1)\/κ.2≠0)->Iw G w G' w' κ)/\∀ κ:Qz,G'.gen κ=G.gen κ)
section
variable {P:Ye}
def Vmk {f : FuncId} {fn : Func} {c : Code} (hf : P.funcs[f]? = some fn) (hb : fn.body = some c) (hname : (fn.name == "runtime.NumGoroutine") = false) {args : List SV} {nb : List (Nat × ABox)} {res : SV} {n : Nat} (hn : fn.ntmps = n)
  (hle:args.length<=n) (hargs:∀ s∈args,Qu [] [] s) (hres:Qu (nb.map (·.1)) [] res) (hbx':∀ p∈nb,∀s∈p.2.svs,Qu (nb.map (·.1)) [] s)
  (h:W P c (Ends P fn res nb []) ⟨args++Z9 (n-args.length) .junk,[],[]⟩):Vml P f args nb res:=by
 refine⟨⟨fn,hf,by rw[hb];rfl,hname⟩,?_⟩;intro G w vs hw hr;have hlv:=hr.length
 let ids:=nb.map (·.1)
 let mine:Qz->Prop:=λκ=>κ.1∈ids/\κ.2=0
 have hdec:∀ κ,mine κ\/¬ mine κ:=λκ=>Classical.em _
 let G0:Gh:={U:=G.U,cp:=G.cp,ow:=λ_=>Zw,gen:=λ_=>0,df:=[]}
 have hw0:Wf G0 w:=⟨λκ κ' b h1 h2=>by simp[G0]at h1,λκ b h1=>by simp[G0]at h1,hw.zero⟩
 have hrel:Fc G0 w ⟨args++Z9 (n-args.length) .junk,[],[]⟩ {tmps:=vs.toArray++Y3 (fn.ntmps-vs.toArray.size) Q0,defers:=[]}:=by
  refine⟨hw0,?_,λt s ht=>?_,λp hp=>by simp at hp,λk=>rfl,rfl⟩
  ·simp[hlv,hn]
  ·simp only at ht;rcases Q7 t args.length with hlt|hge
   ·rw[Xj hlt]at ht;have hr0:=Vc0 (G:=G) (G':=G0) (ids:=[]) (gn:=[]) rfl rfl (λi hi=>by simp at hi) (λk g hl=>by simp at hl) hargs hr;obtain⟨u,h1,h2⟩:=hr0.get t s ht;have:(vs.toArray++Y3 (fn.ntmps-vs.toArray.size) Q0).getD t Q0=u:=by
     have hlt':t<vs.length:=kv;simp only[Zg];rw[Array.getElem?_append_left (by simpa using hlt')];simp[h1]
    rw[this];exact h2
   ·rw[List.getElem?_append_right hge,List.getElem?_replicate]at ht
    split at ht
    ·simp at ht;subst ht;trivial
    ·simp at ht
 refine calls_of_wp hf hb (Code.wp_mono (λe a w' hl=>?_) (h G0 w _ hrel));obtain⟨S',G1,h1,h2,h3,h4⟩:=hl;have done:(∃keep,aRes P fn S' keep=H res)/\(∀p∈nb,S'.bx.lookup p.1=H p.2)/\(∀p∈([]:F (Qz×I)),S'.gen p.1=p.2)->a.defers=[]/\∃ v,(results fn a.tmps).run P w'=.ok v w'/\
   ∃v_1 G',Ending.returned v=.returned v_1/\Jq G w G' w'/\Wf G' w'/\Q3 G' w' res v_1/\(∀p∈nb,Dr G' w' p.1 p.2)/\(∀κ:Qz,(κ.1 ∉ nb.map (·.1)\/κ.2≠0)->Iw G w G' w' κ)/\∀ κ:Qz,G'.gen κ=G.gen κ:=by
  rintro⟨⟨keep,g1⟩,g2,_⟩;obtain⟨v,e1,e2⟩:=Vo1 g1 h3
  let G':Gh:={U:=G1.U,cp:=G1.cp,ow:=λκ=>@ite _ (mine κ) (Classical.propDecidable _) (G1.ow κ) (G.ow κ),gen:=G.gen,df:=G.df}
  have hG':∀ κ:Qz,mine κ->G'.ow κ=G1.ow κ:=λκ hκ=>by simp only[G'];rw[Yu hκ]
  have hG'n:∀ κ:Qz,¬mine κ->G'.ow κ=G.ow κ:=λκ hκ=>by simp only[G'];rw[Z3 hκ]
  have hnot:∀ κ b,G.ow κ=H b->w'.heap[b]? =w.heap[b]? /\G1.U b=G.U b:=λκ b hb=>
   h2.stay b (hw.lt κ b hb) (λκ2 h'=>by simp[G0]at h')
  have hnew:∀ κ b,G1.ow κ=H b->w.heap.size<=b:=by
   intro κ b hb;rcases h2.rng κ b hb with⟨κ',h'⟩|h'
   ·simp[G0]at h'
   ·exact h'
  have hkeep:∀ κ:Qz,¬mine κ->Iw G w G' w' κ:=λκ hκ=>⟨hG'n κ hκ,λb hb=>hnot κ b hb⟩
  have hid1:∀ i:I,i∈ids->G'.ow (i,0)=G1.ow (i,0):=λi hi=>hG' (i,0) ⟨hi,rfl⟩
  have how:∀ κ b,G'.ow κ=H b->(mine κ/\G1.ow κ=H b)\/(¬mine κ/\G.ow κ=H b):=by
   intro κ b hκ;rcases hdec κ with hm|hm
   ·rw[hG' κ hm]at hκ;exact .inl ⟨hm,hκ⟩
   ·rw[hG'n κ hm]at hκ;exact .inr ⟨hm,hκ⟩
  have hext:Ext G w G' w':=by
   refine⟨h2.U,h2.imm,h2.size,h2.os,Prod.ext h2.toExt.tp rfl,h2.output,h2.cp,λ_=>Zn _,λκ h0 hge=>?_⟩;exact hkeep κ (λhm=>by have:=hm.2;omega)
  refine⟨h3.defers.trans h2.toExt.df,v,e1,v,G',rfl,⟨hext,?_,?_⟩,⟨?_,?_,h3.wf.zero⟩,?_,?_,?_,λ_=>rfl⟩
  ·intro b hb' hno;exact h2.stay b hb' (λκ hκ=>by simp[G0]at hκ)
  ·intro κ b hκ;rcases how κ b hκ with⟨_,q⟩|⟨_,q⟩
   ·exact .inr (hnew κ b q)
   ·exact .inl ⟨κ,q⟩
  ·intro κ κ' b hκ hκ';rcases how κ b hκ with⟨m1,q1⟩|⟨m1,q1⟩ <;>rcases how κ' b hκ' with⟨m2,q2⟩|⟨m2,q2⟩
   ·exact h3.wf.inj κ κ' b q1 q2
   ·have:=hnew κ b q1;have:=hw.lt κ' b q2;omega
   ·have:=hnew κ' b q2;have:=hw.lt κ b q1;omega
   ·exact hw.inj κ κ' b q1 q2
  ·intro κ b hκ;rcases how κ b hκ with⟨_,q⟩|⟨_,q⟩
   ·exact h3.wf.lt κ b q
   ·have:=hw.lt κ b q;have:=h2.size;omega
  ·exact Vfk (G:=G1) (G':=G') (ids:=ids) (gn:=[]) rfl rfl hres hid1 (λk g hl=>by simp at hl) e2
  ·intro p hp;have:=h3.bx _ (Vag (g2 p hp));exact Vfl (G:=G1) (G':=G') (ids:=ids) (gn:=[]) rfl rfl hid1 (λk g hl=>by simp at hl) (List.mem_map_of_mem hp) (hbx' p hp) this
  ·intro κ hκ;exact hkeep κ (λhm=>by rcases hκ with q|q;exact q hm.1;exact q hm.2)
 cases e with
 |normal=>exact done h1
 |ret=>exact done h1
 |exit id=>exact h1.elim
 |goto l=>exact h1.elim
 |panic ch=>exact h1.elim
 |outgrown=>exact h1.elim
def Rel_new{G G':Gh}{w w':Xc}{S:St}{a:Act}{nb:F (I×Xa)}(h:Fc G w S a)(hx:Ext G w G' w')(hw:Wf G' w')(hk:∀ κ:Qz,(κ.1 ∉ nb.map (·.1)\/κ.2≠0)->Iw G w G' w' κ)(hg:∀ κ:Qz,G'.gen κ=G.gen κ)(hb:∀ p∈nb,Dr G' w' p.1 p.2)
  (hn:nb.all (λp=> !S.names p.1)=Zi):Fc G' w' {S with bx:=nb++S.bx} a:=by
 have hn':∀ i∈nb.map (·.1),S.names i=false:=by
  intro i hi;simp only[Yv]at hi;obtain⟨p,hp,rfl⟩:=hi;have:=Zj.1 hn p hp;simpa using this
 have hkS:∀ s:SV,(∀i∈nb.map (·.1),s.names i=V)->∀ κ∈s.keys,Iw G w G' w' κ:=by
  intro s hs κ hκ;refine hk κ (.inl λhi=>?_);exact Vc6 (hs κ.1 hi) κ hκ rfl
 refine⟨hw,h.size,λt s ht=>?_,λp hp=>?_,λk=>by rw[hg];exact h.gn k,h.defers.trans hx.df.symm⟩
 ·refine(h.fr t s ht).persist hx (λκ hκ=>(hkS s (λi hi=>?_) κ hκ).1);have:=hn' i hi;simp only[St.names,Ip]at this;have h1:=this.1;rw[Qs]at h1;simpa using h1 s (Xz ht)
 ·simp only[Yk]at hp;rcases hp with hp|hp
  ·exact hb p hp
  ·have hp':∀ i∈nb.map (·.1),p.1≠i/\p.2.svs.any (SV.names i)=false:=by
    intro i hi;have:=hn' i hi;simp only[St.names,Ip]at this;have h2:=this.2;rw[Qs]at h2;simpa using h2 p hp
   refine(h.bx p hp).persist hx (hk _ (.inl λhi=>(hp' p.1 hi).1 rfl)) (λκ hκ=>?_);simp only[Jt]at hκ;obtain⟨s,hs,hs2⟩:=hκ;refine(hkS s (λi hi=>?_) κ hs2).1;have:=(hp' i hi).2;rw[Qs]at this;simpa using this s hs
def WO_new{ops:Yp Yz}{o:Yz}{rest:F Yz}{Q:St->Prop}{S:St}{x:Qp}{args:Yp Qp}{tys:Yp Db}{f:I8}{fs cs:F PV}{nb:F (I×Xa)}{res:SV}(d:I)(hg:(o.guard,o.dst)=(Zw,H d))
  (ho:o.op=.call {callee:=.value x,args:=args,argTypes:=tys}) (hx:S.ev x=.fn f fs cs) (hc:Vml P f (Vfd S fs args.toList cs V) nb res) (hids:nb.all (λp=>decide (p.1<1000)||decide (2000<=p.1))=Zi) (hn:nb.all (λp=> !S.names p.1)=Zi)
  (h:WO P ops rest Q (Xv {S with bx:=nb++S.bx} (H d) res)):WO P ops (o::rest) Q S:=by
 simp only[Zy]at hg;refine WO_op (λG w a hr=>Vat hg.1 a) (λG w a hr Q' next hnx=>?_) h;obtain⟨⟨fn,hf1,hf2,hf3⟩,hcall⟩:=hc;have h1:=hr.ev x;rw[hx]at h1;obtain⟨vs,us,h2,h3,h4⟩:=h1;have hargs:=Vo4 hr h3 h4 args.toList V;have hcall:=hcall G w _ hr.wf hargs;have hrun:(execOp a.eval o).run P w=.ok (.enter f (vs.toList++(args.toList.map a.eval++us.toList)).toArray) w:=by
  have hnone:fn.body.isNone=false:=by cases hb:fn.body <;>simp_all
  simp only[execOp,ho,resolve,h2,Deferred.ofValue,Q5,Dq,Qn,invoke,callFunc,run_program,hf1];rw[Z3 (by rw[hf3];simp)];simp only[hnone,I9,Ja,Dq];congr 2;apply D7;simp
 unfold Ds;rw[hrun,Oper.upon_enter];refine hcall.mono ?_;rintro e w' ⟨v,G',rfl,s1,s2,s3,s4,s5,s6⟩;have hrel:=Rel_new hr s1.toExt s2 s5 s6 s4 hn;rw[hg.2];refine hnx G' _ w' s1 (hrel.put (H d) s3) (λi hi=>?_);refine(s5 (i,0) (.inl λhm=>?_)).1;simp only[Yv]at hm;obtain⟨p,hp,hpe⟩:=hm;have:=Zj.1 hids p hp;simp only[Yc,Zu]at this;have h5:p.1=i:=hpe;omega
def Nb_same{a:Act}{d:I}{v:Xx}(h:d<a.tmps.size):(a.put (H d) v).eval (.tmp d)=v:=by
 simp only[Act.eval,Act.put,Zg];rw[Z7 h];rfl
def Vih{a:Act}{d t:I}{v:Xx}(h:t≠d):(a.put (H d) v).eval (.tmp t)=a.eval (.tmp t):=by
 simp only[Act.eval,Act.put,Zg];rw[Z0 (Ne.symm h)]
end
end
section
def okCb(gn:F (Qz×I)):CV->Yr
 | .own k g _ _=>gn.lookup k==H g
 |_=>Zi
def okSb(ids:F I)(gn:F (Qz×I)):SV->Yr
 | .own k g _ _=>gn.lookup k==H g
 | .ag l=>l.all (okCb gn)
 | .tp l=>l.all (λx=>match x with| .c x=>okCb gn x| .a l=>l.all (okCb gn))
 |s=>s.keys.all (λκ=>ids.contains κ.1)
def okCb_ok{gn:F (Qz×I)}{x:CV}(h:okCb gn x=Zi):OkCV gn x:=by
 cases x with
 |own k g sz l=>simpa[okCb,OkCV]using h
 |_=>trivial
def Vd1{ids:F I}{gn:F (Qz×I)}{s:SV}(h:okSb ids gn s=Zi):Qu ids gn s:=by
 have key:∀ l:F Qz,l.all (λκ=>ids.contains κ.1)=Zi->∀ κ∈l,κ.1∈ids:=λl hl κ hκ=>by
  have:=Zj.1 hl κ hκ;simpa using this
 cases s with
 |own k g sz l=>simpa[okSb,Qu]using h
 |ag l=>exact λx hx=>okCb_ok (Zj.1 h x hx)
 |tp l=>
  intro x hx;have h1:=Zj.1 h x hx;cases x with
  |c x=>exact okCb_ok h1
  |a l=>exact λy hy=>okCb_ok (Zj.1 h1 y hy)
 |junk=>exact key _ h
 |clo l=>exact key _ h
 |nil=>exact key _ h
 |av x=>exact key _ h
 |ptr b o=>exact key _ h
 |mp b=>exact key _ h
 |fn f fs cs=>exact key _ h
 |son b=>exact key _ h
 |vs b n=>exact key _ h
 |vp b sz i o=>exact key _ h
 |vw b sz o n=>exact key _ h
def okB(ids:F I)(gn:F (Qz×I))(bx:F (I×Xa)):Bool:=bx.all (λp=>p.2.svs.all (okSb ids gn))
def Vl7(fn:Iy)(args:F SV)(bx:F (I×Xa))(gn:F (Qz×I))(res:SV)(bx':F (I×Xa))(gn':F (Qz×I)):Bool:=
 fn.body.isSome && !(fn.name == "runtime.NumGoroutine") && decide (args.length <= fn.ntmps) && bx.all (λp => decide (1000 <= p.1)) && gn.all (λp => decide (1000 <= p.1.1) && decide (0 < p.1.2)) &&
  args.all (okSb (bx.map (·.1)) gn)&&okB (bx.map (·.1)) gn bx&&okSb (bx.map (·.1)) gn' res&&okB (bx.map (·.1)) gn' bx'&&(bx'.map (·.1)==bx.map (·.1))&&(gn'.map (·.1)==gn.map (·.1))&&bx'.all (λp=>decide (p.1<2000)||(Vbb bx').contains p.1)
section
variable {P:Ye}
def Vgv{ids:F I}{gn:F (Qz×I)}{bx:F (I×Xa)}(h:okB ids gn bx=Zi):∀ p∈bx,∀s∈p.2.svs,Qu ids gn s:=
 λp hp s hs=>Vd1 (Zj.1 (Zj.1 h p hp) s hs)
def KS(P:Ye)(fn:Iy)(res:SV)(bx':F (I×Xa))(gn':F (Qz×I))(_:Je):Qj->St->Prop:=Ends P fn res bx' gn'
def BEGs{f:I8}{fn:Iy}{args:F SV}{bx bx':F (I×Xa)}{gn gn':F (Qz×I)}{res:SV}(hf:P.funcs[f]? =H fn)(hok:Vl7 fn args bx gn res bx' gn'=Zi)
  (h:Nx P (KS P fn res bx' gn') () (start (Vbf fn) ⟨args++Z9 (fn.ntmps-args.length) .junk,bx,gn⟩)):Va1 P f args bx gn res bx' gn':=by
 simp only[Vl7,Zk,Zu,Yb,I2]at hok;obtain⟨⟨⟨⟨⟨⟨⟨⟨⟨⟨⟨h1,h2⟩,h3⟩,h4⟩,h5⟩,h6⟩,h7⟩,h8⟩,h9⟩,h10⟩,h11⟩,h12⟩:=hok;obtain⟨c,hb⟩:=Xl.1 h1;have e:Vbf fn=c:=by simp[Vbf,hb]
 refine Ved hf hb h2 rfl h3 (λp hp=>?_) (λp hp=>?_) (λs hs=>Vd1 (Zj.1 h6 s hs)) (Vgv h7) (Vd1 h8) (Vgv h9) h10 h11 ?_ (λp hp=>?_)
 ·have:=Zj.1 h4 p hp;simpa using this
 ·have:=Zj.1 h5 p hp;simpa using this
 ·rw[<-e];exact h.x
 ·have:=Zj.1 h12 p hp;simpa using this
def ENs{fn:Iy}{res:SV}{bx':F (I×Xa)}{gn':F (Qz×I)}{M:Je}{X:Cf}(h:Vmx P fn X=H res)(hb:bx'.map (λp=>(stOf X).bx.lookup p.1)=bx'.map (λp=>H p.2))(hg:gn'.map (λp=>(stOf X).gen p.1)=gn'.map (·.2)):Nx P (KS P fn res bx' gn') M X:=by
 have hb':∀ p∈bx',(stOf X).bx.lookup p.1=H p.2:=λp hp=>Y4.1 hb p hp
 have hg':∀ p∈gn',(stOf X).gen p.1=p.2:=λp hp=>Y4.1 hg p hp
 unfold Vmx at h
 split at h
 ·exact⟨ends (.inl rfl) h rfl hb' hg'⟩
 ·exact⟨ends (.inr rfl) h rfl hb' hg'⟩
 ·simp at h
def Vqm(id:I):De->Qt (Yp Yz)
 | .region i ops _=>if i=id then H ops else Zw
 | .seq x y=>(Vqm id x).orElse (λ_=>Vqm id y)
 | .cond _ x y=>(Vqm id x).orElse (λ_=>Vqm id y)
 | .block _ c=>Vqm id c
 | .loop c=>Vqm id c
 |_=>Zw
def Vaa(id:I)(fn:Iy):Yp Oper:=(Vqm id (Vbf fn)).getD #[]
def regO(id:I)(fn:Iy)(i:I):Oper:=(Vaa id fn).getD i ((Vaa id fn).getD 0 default)
def okNew(fn:Iy)(args:F SV)(nb:F (I×Xa))(res:SV):Bool:=
 fn.body.isSome && !(fn.name == "runtime.NumGoroutine") && decide (args.length <= fn.ntmps) && args.all (okSb [] []) && okSb (nb.map (·.1)) [] res && okB (nb.map (·.1)) [] nb
def BEGn{f:I8}{fn:Iy}{args:F SV}{nb:F (I×Xa)}{res:SV}(hf:P.funcs[f]? =H fn)(hok:okNew fn args nb res=Zi)
  (h:Nx P (KS P fn res nb []) () (start (Vbf fn) ⟨args++Z9 (fn.ntmps-args.length) .junk,[],[]⟩)):Vml P f args nb res:=by
 simp only[okNew,Zk,Zu,Yb]at hok;obtain⟨⟨⟨⟨⟨h1,h2⟩,h3⟩,h4⟩,h5⟩,h6⟩:=hok;obtain⟨c,hb⟩:=Xl.1 h1;have e:Vbf fn=c:=by simp[Vbf,hb]
 refine Vmk hf hb h2 rfl h3 (λs hs=>Vd1 (Zj.1 h4 s hs)) (Vd1 h5) (Vgv h6) ?_;rw[<-e];exact h.x
end
end
section
open Go
section
variable {P:Ye} {α:Type}
def gO{K:α->Qj->St->Prop}{M:α}{X:Cf}(oc:OC)(hn:Nx P K M (adv P X oc.o))(h:csOf (adv P X oc.o)=H oc.c:=by kernel_rfl):Nx P K M X:=GO oc h hn
def uN{K:α->Qj->St->Prop}{M:α}{X:Cf}(S0:St)(n:I)(h:Nx P (KU P (lpC X) (lpK X) K n) M (start (lpC X) S0))(hX:isLp X=true:=by kernel_rfl)(hw:Xu (stOf X) S0:=by exact WK kx):Nx P K M X:=UN S0 n hX hw h
def uA{c:De}{ks:F Fm}{K:α->Qj->St->Prop}{M:α}{X:Cf}{n:I}(S0:St)(h:Nx P (KU P c ks K n) M (start c S0))(hX:Vp7 X=H .normal:=by kernel_rfl)(hw:Xu (stOf X) S0:=by exact WK kx):Nx P (KU P c ks K (n+1)) M X:=UA S0 hX hw h
def uO{c:De}{ks:F Fm}{K:α->Qj->St->Prop}{M:α}{X:Cf}{n:I}(oc:OC)(hn:Nx P K M (outX P ks X oc.o))(h:csOf (outX P ks X oc.o)=H oc.c:=by kernel_rfl):Nx P (KU P c ks K n) M X:=UO oc h hn
def bG{f:I8}{fn:Iy}{args:F SV}{res:SV}(hf:P.funcs[f]? =H fn)(h:Nx P (KE P fn (λ_:Je=>res) [] []) () (start (Vbf fn) ⟨args++Z9 (fn.ntmps-args.length) .junk,[],[]⟩))(hok:okFn fn args res=true:=by kernel_rfl):Va1 P f args [] [] res [] []:=D3 (λ_:Je=>res) () hf hok h
def eN{fn:Iy}{enc:α->SV}{M:α}{X:Cf}(h:Vmx P fn X=H (enc M):=by kernel_rfl):Nx P (KE P fn enc [] []) M X:=EN h
def bGs{f:I8}{fn:Iy}{args:F SV}{bx bx':F (I×Xa)}{gn gn':F (Qz×I)}{res:SV}(hf:P.funcs[f]? =H fn)
  (h:Nx P (KS P fn res bx' gn') () (start (Vbf fn) ⟨args++Z9 (fn.ntmps-args.length) .junk,bx,gn⟩)) (hok:Vl7 fn args bx gn res bx' gn'=true:=by kernel_rfl):Va1 P f args bx gn res bx' gn':=BEGs hf hok h
def eNs{fn:Iy}{res:SV}{bx':F (I×Xa)}{gn':F (Qz×I)}{M:Je}{X:Cf}(h:Vmx P fn X=H res:=by kernel_rfl)(hb:bx'.map (λp=>(stOf X).bx.lookup p.1)=bx'.map (λp=>H p.2):=by kernel_rfl)(hg:gn'.map (λp=>(stOf X).gen p.1)=gn'.map (·.2):=by kernel_rfl):Nx P (KS P fn res bx' gn') M X:=ENs h hb hg
end
end
section
variable {P:Ye}
def Vjq(ops:Yp Yz)(n:I):I->Yp Yr->Yr
  |0,L=>(Zz n).all (λi=>L.getD i V)&&Qo .any ops (ops.size-n) n L
  |f+1,L=> !(Qc .any ops L).isEmpty&&(Qc .any ops L).all (λi=>(Zf (i<n)&&Vjq ops n f (L.setIfInBounds i Zi))||
      (Zf (i=n)&&Zf (f=0)&& !L.getD 0 V&&(Zz n).all (λi=>decide (i=0)||L.getD i V)&&Zf (Qc .any ops (L.setIfInBounds n Zi)=[0])&&Qo .any ops (ops.size-(n+1)) (n+1) ((L.setIfInBounds n Zi).setIfInBounds 0 Zi)))
def opdOk(ds:F I)(i:I)(o:Yz):Qp->Yr
 | .tmp t=> !ds.contains t||o.after.toList.any (λe=>Jh .any e&&Zf (e.on<i)&&(ds[e.on]? ==H t))
 |_=>Zi
def Vll(P:Ye)(ds:F I):I->F Yz->St->Qt (F Prop×St)
 |_,[],S=>H ([],S)
 | i,o::rest,S=>match o.guard,o.dst with
  | none,H d=>match still o.op&&Vcq o.op&& !opVs o S&&Zf (ds[i]? =H d)&&Zf (d<S.fr.length)&&o.op.operands.toList.all (opdOk ds i o),Vb8 P o S with
   |true,H r=>match Vll P ds (i+1) rest (S.put (H d) r.v)with
    |some (cs,S')=>H (r.ok::cs,S')
    |none=>Zw
   |_,_=>Zw
  |_,_=>Zw
def Vrd{ds:F I}:∀(l:F Yz)(i:I)(S Sc:St)(cs:F Prop),Vll P ds i l S=H (cs,Sc)->Sc.fr.length=S.fr.length/\Sc.bx=S.bx/\Sc.gn=S.gn
 |[],i,S,Sc,cs,h=>by simp only[Vll,Zm,Zy]at h;obtain⟨_,rfl⟩:=h;exact⟨rfl,rfl,rfl⟩
 | o::rest,i,S,Sc,cs,h=>by
  unfold Vll at h
  split at h
  ·split at h
   ·split at h
    ·rename_i h2;simp only[Zm,Zy]at h;obtain⟨_,rfl⟩:=h;obtain⟨q1,q2,q3⟩:=Vrd rest _ _ _ _ h2;exact⟨by rw[q1];simp[Xv],q2,q3⟩
    ·simp at h
   ·simp at h
  ·simp at h
def Vha{ds:F I}:∀(l:F Yz)(i:I)(S Sc:St)(cs:F Prop),Vll P ds i l S=H (cs,Sc)->∀ t:I,(∀j,i<=j->j<i+l.length->ds[j]? ≠H t)->Sc.fr[t]? =S.fr[t]?
 |[],i,S,Sc,cs,h,t,ht=>by simp only[Vll,Zm,Zy]at h;obtain⟨_,rfl⟩:=h;rfl
 | o::rest,i,S,Sc,cs,h,t,ht=>by
  unfold Vll at h
  split at h
  ·rename_i d hg hd
   split at h
   ·rename_i r hc ha;simp only[Zk,Zu]at hc
    split at h
    ·rename_i h2;simp only[Zm,Zy]at h;obtain⟨_,rfl⟩:=h;rw[Vha rest (i+1) _ _ _ h2 t (λj h1 h3=>ht j kv (by simp only[Xi];omega))];have:d≠t:=λe=>ht i (Zn _) ku (by rw[<-e];exact hc.1.1.2)
     simp only[Xv,Yh];rw[Z3 this]
    ·simp at h
   ·simp at h
  ·simp at h
def headL_at{ds:F I}(hnd:ds.Nodup):∀(l:F Yz)(i:I)(S Sc:St)(cs:F Prop),Vll P ds i l S=H (cs,Sc)->All cs->∀(k:I)(o:Yz),l[k]? =H o->
  ∃(d:I)(Si:St)(p:Prop)(v:SV),o.guard=Zw/\o.dst=H d/\ds[i+k]? =H d/\d<S.fr.length/\still o.op=Zi/\Vcq o.op=Zi/\opVs o Si=V/\Vb8 P o Si=H ⟨p,v,Si⟩/\p/\Sc.fr[d]? =H v/\Si.bx=S.bx/\Si.gn=S.gn/\
   (∀x∈o.op.operands,opdOk ds (i+k) o x=Zi)/\(∀t:I,(∀j,i<=j->j<i+k->ds[j]? ≠H t)->Si.fr[t]? =S.fr[t]?)/\(∀j d',i<=j->j<i+k->ds[j]? =H d'->Si.fr[d']? =Sc.fr[d']?)
 |[],i,S,Sc,cs,h,hc,k,o,ho=>by simp at ho
 | o'::rest,i,S,Sc,cs,h,hc,k,o,ho=>by
  have hall:=h;unfold Vll at h
  split at h
  ·rename_i d hg hd
   split at h
   ·rename_i r hx ha;simp only[Zk,Zu,Yb]at hx;obtain⟨⟨⟨⟨⟨x1,x2⟩,x3⟩,x4⟩,x5⟩,x6⟩:=hx
    split at h
    ·rename_i cs2 S2 h2;simp only[Zm,Zy]at h;obtain⟨rfl,rfl⟩:=h;have hst:=Vfe ha x1;have hother:∀ t:I,(∀j,i+1<=j->j<i+1+rest.length->ds[j]? ≠H t)->S2.fr[t]? =(S.put (H d) r.v).fr[t]? :=Vha rest _ _ _ _ h2;have hput:(S.put (H d) r.v).fr[d]? =H r.v:=by simp only[Xv,Yh];simp[x5]
     have hdn:∀ j,ds[j]? =H d->j=i:=λj hj=>by
      have h1:=Y0.1 hj;have h3:=Y0.1 x4;obtain⟨g1,g2⟩:=h1;obtain⟨g3,g4⟩:=h3;have hp:=Qg.1 hnd;rcases Jj j i with hlt|he|hlt
      ·exact Yq (g2.trans g4.symm) (hp j i g1 g3 hlt)
      ·exact he
      ·exact Yq (g4.trans g2.symm) (hp i j g3 g1 hlt)
     cases k with
     |zero=>
      simp only[List.getElem?_cons_zero,Zm]at ho;subst ho;refine⟨d,S,r.ok,r.v,hg,hd,x4,x5,x1,x2,x3,by rw[ha,res_self hst],hc.1,?_,rfl,rfl,λx hx=>Zj.1 x6 x (by simpa using hx),λt _=>rfl,λj d' h3 h4=>by omega⟩;rw[hother d (λj h3 _ h5=>by have:=hdn j h5;omega)];exact hput
     | succ k=>
      simp only[List.getElem?_cons_succ]at ho;obtain⟨d2,Si,p,v,y1,y2,y3,y4,y5,y6,y7,y8,y9,y10,y11,y12,y13,y14,y15⟩:=headL_at hnd rest (i+1) _ _ _ h2 hc.2 k o ho;have e:i+1+k=i+(k+1):=kv;rw[e]at y3 y13 y14 y15;refine⟨d2,Si,p,v,y1,y2,y3,by simpa[Xv]using y4,y5,y6,y7,y8,y9,y10,y11,y12,y13,λt ht=>?_,λj d' h3 h4 h5=>?_⟩
      ·rw[y14 t (λj h3 h4=>ht j kv h4)];have:d≠t:=λe=>ht i (Zn _) kv (by rw[<-e];exact x4)
       simp only[Xv,Yh];rw[Z3 this]
      ·by_cases hj:j=i
       ·subst hj;rw[x4]at h5;simp only[Zm]at h5;subst h5;rw[y14 d (λj h6 _ h8=>by have:=hdn j h8;omega),hput,hother d (λj h6 _ h8=>by have:=hdn j h8;omega),hput]
       ·exact y15 j d' kv h4 h5
    ·simp at h
   ·simp at h
  ·simp at h
def slot0(S Sc:St)(d:I):St:={Sc with fr:=Sc.fr.set d (S.fr.getD d .junk)}
def Vl4(P:Ye)(ops:Yp Yz)(n:I)(S:St):Qt (F Prop×St×St):=
 match Vll P (ops.toList.filterMap (·.dst)) 0 (ops.toList.take n) S,ops[n]?,ops[0]? with
 | some (c1,Sc),H o,H o0=>match o.guard,o.dst,o0.dst with
  | none,H dn,H d0=>match Vb8 P o Sc,Vb8 P o (slot0 S Sc d0)with
   | some r,H r0=>match Vb8 P o0 (r0.st.put (H dn) r0.v)with
    |some q=>match Vdi P (ops.toList.map (·.dst)) (ops.toList.drop (n+1)) [] (r.st.put (H dn) r.v)with
     |some (c2,_,T)=>H (c1++(r.ok::r0.ok::q.ok::c2),T,(q.st.put (H d0) q.v))
     |none=>Zw
    |none=>Zw
   |_,_=>Zw
  |_,_,_=>Zw
 |_,_,_=>Zw
def pushMid(P:Ye)(ops:Yp Yz)(n:I)(S:St):Qt St:=
 match Vll P (ops.toList.filterMap (·.dst)) 0 (ops.toList.take n) S,ops[n]? with
 |some (_,Sc),H o=>(Vb8 P o Sc).map (λr=>r.st.put o.dst r.v)
 |_,_=>Zw
def pushOk(ops:Yp Yz)(n:I):Bool:=Vjq ops n n (Y3 ops.size V)&&Zf ((ops.toList.filterMap (·.dst)).Nodup)&&Zf (0<n)&&Zf (n<ops.size)
def W_pushR{id:I}{ops:Yp Yz}{S T T0:St}{cs:F Prop}(n:I)(hm:P.follows .mixedOrders=Zi)(hB:pushOk ops n=Zi)(h:Vl4 P ops n S=H (cs,T,T0))(hmid:pushMid P ops n S=H T0)(hc:All cs):W P (.region id ops Zi) (λe S1=>e=.normal/\S1=T) S:=by
 simp only[pushOk,Zk,Zu]at hB;obtain⟨⟨⟨hB,hnd⟩,hn0⟩,hnlt⟩:=hB;obtain⟨ds,hds⟩:∃ ds,ops.toList.filterMap (·.dst)=ds:=⟨_,rfl⟩
 unfold Vl4 at h;unfold pushMid at hmid;rw[hds]at hnd h hmid
 split at h
 case h_2=>simp at h
 rename_i c1 Sc on o0 hh hon ho0;rw[hh,hon]at hmid;simp only at h hmid
 split at h
 case h_2=>simp at h
 rename_i dn d0 hgn hdn hd0
 split at h
 case h_2=>simp at h
 rename_i r r0 har har0
 split at h
 case h_2=>simp at h
 rename_i q haq
 split at h
 case h_2=>simp at h
 rename_i c2 ors2 T2 hrun;simp only[Zm,Zy]at h;obtain⟨rfl,rfl,hT0⟩:=h;rw[har,hdn]at hmid;simp only[Qb,Zm]at hmid;have hTe:q.st.put (H d0) q.v=r.st.put (H dn) r.v:=by rw[hT0,hmid]
 obtain⟨hc1,hcr,hcr0,hcq,hc2⟩:=Vba hc;obtain⟨hlen,hbx,hgn2⟩:=Vrd _ _ _ _ _ hh;have hat:=headL_at hnd _ _ _ _ _ hh hc1;have hoth:=Vha _ _ _ _ _ hh;have htake:∀ k,k<n->(ops.toList.take n)[k]? =ops[k]? :=λk hk=>by simp[I5,hk]
 have hltl:(ops.toList.take n).length=n:=by simp;omega
 have hhead:∀ i,i<n->∀ o,ops[i]? =H o->∃(d:I)(Si:St)(p:Prop)(v:SV),o.guard=Zw/\o.dst=H d/\ds[i]? =H d/\d<S.fr.length/\still o.op=Zi/\Vcq o.op=Zi/\opVs o Si=V/\Vb8 P o Si=H ⟨p,v,Si⟩/\p/\Sc.fr[d]? =H v/\Si.bx=S.bx/\Si.gn=S.gn/\
   (∀x∈o.op.operands,opdOk ds i o x=Zi)/\(∀t:I,(∀j,j<i->ds[j]? ≠H t)->Si.fr[t]? =S.fr[t]?)/\(∀j d',j<i->ds[j]? =H d'->Si.fr[d']? =Sc.fr[d']?):=by
  intro i hi o ho;obtain⟨d,Si,p,v,y1,y2,y3,y4,y5,y6,y7,y8,y9,y10,y11,y12,y13,y14,y15⟩:=hat i o ((htake i hi).trans ho);simp only[Ji]at y3 y13 y14 y15;exact⟨d,Si,p,v,y1,y2,y3,y4,y5,y6,y7,y8,y9,y10,y11,y12,y13,λt ht=>y14 t (λj _ hj=>ht j hj),λj d' hj=>y15 j d' (Nat.zero_le _) hj⟩
 have hdn':∀(i j t:I),ds[i]? =H t->ds[j]? =H t->i=j:=by
  intro i j t hi hj;obtain⟨g1,g2⟩:=Y0.1 hi;obtain⟨g3,g4⟩:=Y0.1 hj;have hp:=Qg.1 hnd;rcases Jj i j with hlt|he|hlt
  ·exact Yq (g2.trans g4.symm) (hp i j g1 g3 hlt)
  ·exact he
  ·exact Yq (g4.trans g2.symm) (hp j i g3 g1 hlt)
 intro G0 w0 a0 hr0;obtain⟨hstep0,hr0'⟩:=hr0.draw;apply wp_region_any hm
 -- the chain behind
 have tail:∀(L:Yp Yr)(G:Gh)(w:Xc)(a:Act),Qo .any ops (ops.size-(n+1)) (n+1) L=Zi->Fc G w (r.st.put (H dn) r.v) a->Jq G0 w0 G w->(∀i,Fx i->G.ow (i,0)=G0.ow (i,0))->
   wpAny P .any ops (lift (λe S1=>e=.normal/\S1=T2) G0 w0) (ops.size-(n+1)) L a w:=by
  intro L G w a hs hr hst how;have hl:(ops.toList.drop (n+1)).length=ops.size-(n+1):=ku;have:=Dm (md:=.any) (ops.toList.drop (n+1)) (n+1) L a w (λj=>by simp[I6]) (by rw[hl];exact hs)
   (Ve0 _ _ _ _ _ _ hrun hc2 G w a hr (lift (λe S1=>e=.normal/\S1=T2) G0 w0) (λG' a' w' q1 q2 q3=>⟨T2,G',⟨rfl,rfl⟩,hst.trans q1,q2,λi hi=>(q3 i hi).trans (how i hi)⟩))
  rwa[hl]at this
 have one:∀(o:Yz)(S':St)(p:Res)(i f:I)(L:Yp Yr)(G:Gh)(w:Xc)(a:Act),ops[i]? =H o->o.guard=Zw->Vb8 P o S'=H p->p.ok->Fc G w S' a->Jq G0 w0 G w->(∀i,Fx i->G.ow (i,0)=G0.ow (i,0))->
   (∀G' w' a',Fc G' w' (p.st.put o.dst p.v) a'->Jq G0 w0 G' w'->(∀i,Fx i->G'.ow (i,0)=G0.ow (i,0))->wpAny P .any ops (lift (λe S1=>e=.normal/\S1=T2) G0 w0) f L a' w')->
   wpOp P ops (lift (λe S1=>e=.normal/\S1=T2) G0 w0) i (wpAny P .any ops (lift (λe S1=>e=.normal/\S1=T2) G0 w0) f L) a w:=by
  intro o S' p i f L G w a ho hg hast hp hr hst how hnext;obtain⟨nx,u,w',G',x1,x2,x3,x4,x5,x6⟩:=Vay hast hp G w a hr;unfold wpOp;simp only[ho];rw[Yu (Vat hg a)];refine .inl ?_;have fin:=hnext G' w' (a.put o.dst u) (x4.put o.dst x5) (hst.trans x3) (λi hi=>(x6 i hi).trans (how i hi));unfold Ds;rw[x1];rcases x2 with rfl|⟨rfl,rfl⟩
  ·rw[Xd];exact fin
  ·rw[Oper.upon_skip];exact fin
 have main:∀(f:I)(L:Yp Yr)(G:Gh)(w:Xc)(a:Act)(S':St),Vjq ops n f L=Zi->L.size=ops.size->S'.bx=S.bx->S'.gn=S.gn->S'.fr.length=S.fr.length->
   (∀j d,j<n->L.getD j V=Zi->ds[j]? =H d->S'.fr[d]? =Sc.fr[d]?)->(∀t:I,(∀j,j<n->L.getD j V=Zi->ds[j]? ≠H t)->S'.fr[t]? =S.fr[t]?)->Fc G w S' a->Jq G0 w0 G w->(∀i,Fx i->G.ow (i,0)=G0.ow (i,0))->
   wpAny P .any ops (lift (λe S1=>e=.normal/\S1=T2) G0 w0) (f+(ops.size-n)) L a w:=by
  intro f
  induction f with
  | zero=>
   intro L G w a S' hb hsz h1 h2 h3 h4 h5 hr hst how;simp only[Vjq,Zk]at hb;obtain⟨hall,hseq⟩:=hb;have hall':∀ j,j<n->L.getD j V=true:=λj hj=>Zj.1 hall j (Yo.2 hj)
   have hSS:S'=Sc:=by
    have hfr:S'.fr=Sc.fr:=by
     apply Jm;intro t
     by_cases ht:∃ j,j<n/\ds[j]? =H t
     ·obtain⟨j,hj,hjt⟩:=ht;exact h4 j t hj (hall' j hj) hjt
     ·have ht':∀ j,j<n->ds[j]? ≠H t:=λj hj e=>ht ⟨j,hj,e⟩
      rw[h5 t (λj hj _=>ht' j hj),hoth t (λj _ hj=>ht' j kv)]
    obtain⟨f1,b1,g1⟩:=S';obtain⟨f2,b2,g2⟩:=Sc;simp only at hfr h1 h2 hbx hgn2;rw[hfr,h1,h2,hbx,hgn2]
   subst hSS;have hl:(ops.toList.drop n).length=ops.size-n:=ku;have hdrop:ops.toList.drop n=on::ops.toList.drop (n+1):=by
    have hlt:n<ops.toList.length:=by simpa using hnlt
    rw[List.drop_eq_getElem_cons hlt];have:ops.toList[n]=on:=by
     have h9:ops[n]? =H ops[n]:=Yg hnlt;rw[hon]at h9;simp only[Zm]at h9;simpa using h9.symm
    rw[this]
   have hw:WO P ops (ops.toList.drop n) (λS1=>S1=T2) S':=by
    rw[hdrop];refine Vc3 hgn (Vay har) hcr ?_;rw[hdn];intro more Q' G2 w2 a2 hr2 hq2;exact Vci _ _ _ _ _ _ hrun hc2 G2 w2 a2 hr2 Q' (λG3 a3 w3 q1 q2 q3=>hq2 T2 G3 a3 w3 rfl q1 q2 q3)
   have hw2:=hw [] (lift (λe S1=>e=.normal/\S1=T2) G0 w0) G w a hr (λS2 G2 a2 w2 q1 q2 q3 q4=>⟨S2,G2,⟨rfl,q1⟩,hst.trans q2,q3,λi hi=>(q4 i hi).trans (how i hi)⟩);rw[J7]at hw2;rw[Ji];have:=Dm (md:=.any) (ops.toList.drop n) n L a w (λj=>by simp[I6]) (by rw[hl];exact hseq) hw2;rwa[hl]at this
  | succ f ih=>
   intro L G w a S' hb hsz h1 h2 h3 h4 h5 hr hst how;simp only[Vjq,Zk,Yb,Qh]at hb;obtain⟨hne,hall⟩:=hb;rw[show f+1+(ops.size-n)=(f+(ops.size-n))+1 by omega];refine⟨λh0=>Yq h0 hne,λi hi=>?_⟩;have hi2:=Zj.1 hall i hi;simp only[Yc,Zk,Zu,Yb]at hi2;obtain⟨hun,o,ho,hdep⟩:=Dh.1 hi;have hlisted:i<L.size:=by rw[hsz];exact(Xg.1 ho).1
   rcases hi2 with⟨hin,hbi⟩|⟨⟨⟨⟨⟨rfl,rfl⟩,hl0⟩,hlall⟩,hrdy⟩,hseq⟩
   ·obtain⟨d,Si,p,v,y1,y2,y3,y4,y5,y6,y7,y8,y9,y10,y11,y12,y13,y14,y15⟩:=hhead i hin o ho;have hast:Vb8 P o S'=H ⟨p,v,S'⟩:=by
     obtain⟨f1,b1,g1⟩:=S';obtain⟨f2,b2,g2⟩:=Si;simp only at h1 h2 y11 y12;subst h1 h2 y11 y12;have:=Vff (fr':=f1) y6 y7 (λx hx=>?_) y8
     ·rw[this];rfl
     ·have hok:=y13 x hx;cases x with
      | tmp t=>
       simp only[opdOk,Yc,Yb,Jw,Zk,Zu,I2]at hok;simp only[Fe,Z6];congr 1;rcases hok with hok|⟨e,he,⟨hbe,hel⟩,het⟩
       ·have hnt:∀ j:I,ds[j]? ≠H t:=λj hj=>by
         have:=Xz hj;rw[Ij]at hok;simp[this]at hok
        rw[y14 t (λj _=>hnt j),h5 t (λj _ _=>hnt j)]
       ·have hle:=hdep e (by simpa using he) hbe;rw[y15 e.on t hel het,h4 e.on t kv hle het]
      |_=>rfl
    refine one o S' _ i _ _ G w a ho y1 hast y9 hr hst how (λG' w' a' hr' hst' how'=>?_);rw[y2]at hr';refine ih _ G' w' a' (S'.put (H d) v) hbi (by simp[hsz]) h1 h2 (by simp[Xv,h3]) (λj d' hj hl hd'=>?_) (λt ht=>?_) hr' hst' how'
    ·simp only[Xv,Yh]
     by_cases hji:d=d'
     ·subst hji;rw[Yu rfl,Yu (by rw[h3];exact y4),y10]
     ·rw[Z3 hji];have hij:i≠j:=λe=>hji (by rw[e]at y3;rw[y3]at hd';exact Ys hd')
      refine h4 j d' hj ?_ hd';rw[<-hl];simp only[Zg];rw[Z0 hij]
    ·have hdt:d≠t:=λe=>ht i hin (by simp[Zg,hlisted]) (by rw[<-e];exact y3)
     simp only[Xv,Yh];rw[Z3 hdt];refine h5 t (λj hj hl=>ht j hj ?_);simp only[Zg]at hl ⊢
     by_cases hij:i=j
     ·subst hij;simp[hlisted]
     ·rw[Z0 hij];exact hl
   ·obtain rfl:on=o:=Ys (hon.symm.trans ho);obtain⟨d,Si,p,v,y1,y2,y3,y4,y5,y6,y7,y8,y9,y10,y11,y12,y13,y14,y15⟩:=hhead 0 hn0 o0 ho0;rw[hd0]at y2;simp only[Zm]at y2;subst y2;have hall':∀ j,j<i->j≠0->L.getD j V=true:=λj hj h0=>by
     have:=Zj.1 hlall j (Yo.2 hj);simp only[Yc,Zu]at this;exact this.resolve_left h0
    have hSS:S'=slot0 S Sc d0:=by
     have hfr:S'.fr=Sc.fr.set d0 (S.fr.getD d0 .junk):=by
      apply Jm;intro t;rw[Yh]
      by_cases htd:d0=t
      ·subst htd;rw[Yu rfl,Yu kv,h5 d0 (λj hj hl hjd=>?_)]
       ·simp[y4]
       ·have:=hdn' j 0 d0 hjd y3;subst this;rw[hl0]at hl;cases hl
      ·rw[Z3 htd]
       by_cases ht:∃ j,j<i/\ds[j]? =H t
       ·obtain⟨j,hj,hjt⟩:=ht;refine h4 j t hj (hall' j hj (λh0=>?_)) hjt;subst h0;rw[y3]at hjt;exact htd (Ys hjt)
       ·have ht':∀ j,j<i->ds[j]? ≠H t:=λj hj e=>ht ⟨j,hj,e⟩
        rw[h5 t (λj hj _=>ht' j hj),hoth t (λj _ hj=>ht' j kv)]
     obtain⟨f1,b1,g1⟩:=S';obtain⟨f2,b2,g2⟩:=Sc;simp only at hfr h1 h2 hbx hgn2;simp only[slot0];rw[hfr,h1,h2,hbx,hgn2]
    subst hSS;refine one on _ _ i _ _ G w a hon hgn har0 hcr0 hr hst how (λG' w' a' hr' hst' how'=>?_);rw[hdn]at hr';have hsz1:0+(ops.size-i)=(ops.size-(i+1))+1:=kv;rw[hsz1];refine⟨λh0=>(by rw[hrdy]at h0;cases h0),λk hk=>?_⟩;rw[hrdy]at hk;obtain rfl:k=0:=by simpa using hk
    refine one o0 _ _ 0 _ _ G' w' a' ho0 y1 haq hcq hr' hst' how' (λG2 w2 a2 hr2 hst2 how2=>?_);rw[hd0,hTe]at hr2;exact tail _ G2 w2 a2 hseq hr2 hst2 how2
 have:=main n (Y3 ops.size V) G0 _ a0 S hB ku rfl rfl rfl (λj d _ hl=>by rw[getD_replicate_false]at hl;cases hl) (λ_ _=>rfl) hr0' hstep0 (λ_ _=>rfl);rwa[show n+(ops.size-n)=ops.size by omega]at this
end
section
open Go
section
variable {P:Ye} {α:Type}
def KQ(P:Ye)(fn:Iy)(enc:α->SV)(bxf:α->F (I×Xa))(gnf:α->F (Qz×I))(M:α):Qj->St->Prop:=Ends P fn (enc M) (bxf M) (gnf M)
def ENk{fn:Iy}{enc:α->SV}{bxf:α->F (I×Xa)}{gnf:α->F (Qz×I)}{M:α}{X:Cf}(h:Vmx P fn X=H (enc M))(hb:(bxf M).map (λp=>(stOf X).bx.lookup p.1)=(bxf M).map (λp=>H p.2))(hg:(gnf M).map (λp=>(stOf X).gen p.1)=(gnf M).map (·.2)):Nx P (KQ P fn enc bxf gnf) M X:=by
 have hb':∀ p∈bxf M,(stOf X).bx.lookup p.1=H p.2:=λp hp=>Y4.1 hb p hp
 have hg':∀ p∈gnf M,(stOf X).gen p.1=p.2:=λp hp=>Y4.1 hg p hp
 unfold Vmx at h
 split at h
 ·exact⟨ends (.inl rfl) h rfl hb' hg'⟩
 ·exact⟨ends (.inr rfl) h rfl hb' hg'⟩
 ·simp at h
def ABox.toK:Xa->Xa
 | .vec e sz l=>.vck e sz l
 |x=>x
def toK_rep{G:Gh}{w:Xc}{id:I}{x:Xa}(h:Dr G w id x):Dr G w id x.toK:=by cases x <;>exact h
def kept(bx:F (I×Xa)):F (I×Xa):=bx.map (λp=>(p.1,p.2.toK))
def BEGv(enc:α->SV)(bxf:α->F (I×Xa))(gnf:α->F (Qz×I))(M:α){f:I8}{fn:Iy}{args:F SV}{bx:F (I×Xa)}{gn:F (Qz×I)}(hf:P.funcs[f]? =H fn)(hok:(Vl7 fn args bx gn (enc M) (bxf M) (gnf M)&&(bxf M).all (λp=>decide (p.1<2000)))=Zi)
  (h:Nx P (KQ P fn enc bxf gnf) M (start (Vbf fn) ⟨args++Z9 (fn.ntmps-args.length) .junk,bx,gn⟩)):Va1 P f args bx gn (enc M) (kept (bxf M)) (gnf M):=by
 rw[Zk]at hok;obtain⟨hok,hlo⟩:=hok;simp only[Vl7,Zk,Zu,Yb,I2]at hok;obtain⟨⟨⟨⟨⟨⟨⟨⟨⟨⟨⟨h1,h2⟩,h3⟩,h4⟩,h5⟩,h6⟩,h7⟩,h8⟩,h9⟩,h10⟩,h11⟩,h12⟩:=hok;obtain⟨c,hb⟩:=Xl.1 h1;have e:Vbf fn=c:=by simp[Vbf,hb]
 have hk1:(kept (bxf M)).map (·.1)=(bxf M).map (·.1):=by simp[kept]
 refine Vbt (bx1:=bxf M) hf hb h2 rfl h3 (λp hp=>?_) (λp hp=>?_) (λs hs=>Vd1 (Zj.1 h6 s hs)) (Vgv h7) (Vd1 h8) (Vgv h9) (hk1.trans h10) h11 ?_ (λp hp=>?_) (λp hp=>?_)
 ·have:=Zj.1 h4 p hp;simpa using this
 ·have:=Zj.1 h5 p hp;simpa using this
 ·rw[<-e];refine Vgg h.x (λe S hE=>?_);cases e with
  |normal=>obtain⟨⟨keep,h1⟩,h2,h3⟩:=hE;exact⟨⟨keep,_,h1,.inl rfl⟩,h2,h3⟩
  |ret=>obtain⟨⟨keep,h1⟩,h2,h3⟩:=hE;exact⟨⟨keep,_,h1,.inl rfl⟩,h2,h3⟩
  |_=>exact hE.elim
 ·simp only[kept,Yv]at hp;obtain⟨q,hq,rfl⟩:=hp;have:=Zj.1 hlo q hq;exact .inl (by simpa using this)
 ·simp only[kept,Yv]at hp;obtain⟨q,hq,rfl⟩:=hp;exact⟨q.2,hq,λ_ _ h=>toK_rep h⟩
def cut_weak{S:St}{b e sz:I}{l:F AV}(k:I)(hb:S.bx.lookup b=H (.vec e sz l)):Xu S (S.setBox b (.vec e sz (l.take k))):=by
 intro G w a hr;refine⟨hr.wf,hr.size,hr.fr,λp hp=>?_,hr.gn,hr.defers⟩;simp only[Iq,Yv]at hp;obtain⟨q,hq,rfl⟩:=hp
 split
 ·rename_i hqb;rw[hqb];have h:=hr.bx _ (Vag hb);simp only at h ⊢;rcases h with⟨h1,h2⟩|⟨blk,arr,es,h0,h1,h2,h3,h4,h5,h6,⟨rest,h7⟩,h8⟩
  ·exact .inl ⟨by rw[h1];simp,h2⟩
  ·refine .inr ⟨blk,arr,es.take k,h0,h1,h2,h3,h4,h5.take k,λx hx=>h6 x (Xy hx),⟨Va3 (es.drop k)++rest,?_⟩,λc hc=>h8 c ?_⟩
   ·rw[h7, <-Xf];congr 1;rw[Va3,Va3,Va3, <-List.flatMap_append,Xt]
   ·simp only[Va3,Jt]at hc ⊢;obtain⟨x,hx,h⟩:=hc;exact⟨x,Xy hx,h⟩
 ·exact hr.bx q hq
def CUTV{K:α->Qj->St->Prop}{M:α}{X:Cf}(b k:I){e sz:I}{l l':F AV}(h:vbox (stOf X) b=H (e,sz,l))(hl:l.take k=l')(hn:Nx P K M (reSt X ((stOf X).setBox b (.vec e sz l')))):Nx P K M X:=by
 have hb:(stOf X).bx.lookup b=H (.vec e sz l):=by
  unfold vbox at h;split at h
  ·rename_i h2;simp only[Zm,Zy]at h;obtain⟨rfl,rfl,rfl⟩:=h;exact h2
  ·cases h
 subst hl;exact Vpw (λG w a hr=>⟨G,Q1 G w,cut_weak k hb G w a hr,λ_ _=>rfl⟩) hn
def Vln{S:St}{c k b e sz:I}(hs:Vgc S c k=.nil)(hb:b<1000\/2000<=b)(hn:S.names b=V):Fb S ((Vd0 S c k (.vs b 0)).addBox b (.vec e sz [])):=by
 intro G w a hr
 let G':Gh:={G with ow:=λκ=>if κ=(b,0)then Zw else G.ow κ}
 have how:∀ κ c,G'.ow κ=H c->G.ow κ=H c:=by
  intro κ c h;simp only[G']at h
  split at h
  ·cases h
  ·exact h
 have hkp:∀ κ,κ≠(b,0)->Iw G w G' w κ:=λκ hκ=>⟨by simp only[G'];rw[Z3 hκ],λ_ _=>⟨rfl,rfl⟩⟩
 have hstep:Jq G w G' w:=⟨⟨λ_=>Zn _,Imm.refl _ _,Zn _,rfl,rfl,rfl,λ_ _=>rfl,λ_=>Zn _,λκ h0 _=>hkp κ (by intro e;rw[e]at h0;simp at h0)⟩,λ_ _ _=>⟨rfl,rfl⟩,λκ c h=>.inl ⟨κ,how κ c h⟩⟩
 have hwf:Wf G' w:=⟨λκ κ' c h h'=>hr.wf.inj κ κ' c (how κ c h) (how κ' c h'),λκ c h=>hr.wf.lt κ c (how κ c h),hr.wf.zero⟩
 have hr1:Fc G' w S a:=hr.but hn hstep.toExt hwf hkp rfl;have hbx:Dr G' w b (.vec e sz []):=Or.inl ⟨rfl,by simp[G']⟩;have hput:Fc G' w (Vd0 S c k (.vs b 0)) a:=by
  unfold Vd0
  split
  ·rename_i ty l hl;simp only[Vgc,hl]at hs;refine⟨hr1.wf,hr1.size,hr1.fr,λp hp=>?_,hr1.gn,hr1.defers⟩;simp only[Iq,Yv]at hp;obtain⟨q,hq,rfl⟩:=hp
   split
   ·rename_i hqb;have hb:=hr1.bx _ (Vag hl);simp only at hb ⊢;rw[hqb];obtain⟨blk,arr,g1,g2,g3,g4,g5⟩:=hb;refine⟨blk,arr,g1,g2,g3,?_,g5⟩;have key:∀(l:F SV)(k:I)(us:F Xx),l.getD k .junk=.nil->Xs G' w l us->Xs G' w (l.set k (.vs b 0)) us:=by
     intro l
     induction l with
     |nil=>intro k us _ hu;exact hu
     | cons s l ih=>
      intro k us hw hu;obtain⟨u,us',e,h2,h3⟩:=hu;cases k with
      |zero=>
       simp only[List.getD_cons_zero]at hw;subst hw;exact⟨u,us',e,Or.inl ⟨rfl,h2,by simp[G']⟩,h3⟩
      |succ k=>exact⟨u,us',e,h2,ih k us' (by simpa using hw) h3⟩
    exact key l k _ hs g4
   ·exact hr1.bx q hq
  ·exact hr1
 exact⟨G',hstep,hput.add hbx,λi hi=>by simp only[G'];rw[Z3 (by intro h;simp at h;omega)]⟩
def TELLB{K:α->Qj->St->Prop}{M:α}{X:Cf}(c k b e sz:I)(h:(Vgc (stOf X) c k,Zf (b<1000)||decide (2000<=b),(stOf X).names b)=(.nil,Zi,V))(hn:Nx P K M (reSt X ((Vd0 (stOf X) c k (.vs b 0)).addBox b (.vec e sz [])))):Nx P K M X:=by
 simp only[Zy,Yc,Zu]at h;exact Vpw (Vln h.1 h.2.1 h.2.2) hn
def Vk0(ops:Yp Yz)(k:I):F Nat:=match ops[k]? with
 |some o=>(o.after.toList.filter (Jh .any)).map (·.on)
 |none=>[]
def Vhw{ops:Yp Yz}{k:I}{o:Yz}(ho:ops[k]? =H o){d:I}:d∈Vk0 ops k ↔ ∃e∈o.after,Jh .any e=Zi/\e.on=d:=by
 simp only[Vk0,ho,Yv,List.mem_filter,Array.mem_toList_iff];constructor
 ·rintro⟨e,⟨h1,h2⟩,h3⟩;exact⟨e,h1,h2,h3⟩
 ·rintro⟨e,h1,h2,h3⟩;exact⟨e,⟨h1,h2⟩,h3⟩
def clos(ops:Yp Yz):I->F I->F I
 |0,c=>c
 |k+1,c=>clos ops k (if c.contains k then c++Vk0 ops k else c)
def clos_sub{ops:Yp Yz}{L:I->Yr}(hd:∀ i,L i=Zi->∀ d∈Vk0 ops i,L d=Zi):∀(k:I)(c:F I),(∀j∈c,L j=Zi)->∀ j∈clos ops k c,L j=Zi
 |0,c,h=>h
 | k+1,c,h=>by
  refine clos_sub hd k _ (λj hj=>?_)
  split at hj
  ·rename_i hk;rcases Yk.1 hj with hj|hj
   ·exact h j hj
   ·exact hd k (h k (by simpa using hk)) j hj
  ·exact h j hj
def Vp0(m:I)(p:I->Yr):Yp Bool:=((Zz m).map p).toArray
def marks_get(m:I)(p:I->Yr)(i:I):(Vp0 m p).getD i V=(Zf (i<m)&&p i):=by
 simp only[Vp0,Zg];rw[List.getElem?_toArray,Qr]
 by_cases h:i<m
 ·rw[List.getElem?_range h];simp[h]
 ·rw[Xe (by simpa using h)];simp[h]
def marks_eq{m:I}{L:Yp Yr}(p:I->Yr)(hs:L.size=m)(hp:∀ i,i<m->L.getD i V=p i):L=Vp0 m p:=by
 apply Array.ext
 ·simp[Vp0,hs]
 ·intro i h1 h2;have h3:=hp i kv;have h4:=marks_get m p i;rw[Zg,Yg h1]at h3;rw[Zg,Yg h2]at h4;simp only[Y7]at h3 h4;rw[h3,h4];simp;omega
def headsP(ops:Yp Yz)(n:I):Bool:=
 decide (n<ops.size)&&(Zz n).all (λi=>(Vk0 ops i).all (λd=>decide (d<i)))&&
 (Zz ops.size).all (λi=>decide (i<=n)||(Vk0 ops i).any (λd=>decide (n<=d)))&&
 (Zz n).all (λj=>decide (j=0)||(clos ops n (Vk0 ops n)).contains j)&&
 Qo .any ops (ops.size-n) n (Vp0 ops.size (λi=>decide (i<n)))&&
 ((clos ops n (Vk0 ops n)).contains 0||(Zf (Qc .any ops ((Vp0 ops.size (fun i=>decide (i<n)&&Zf (i≠0))).setIfInBounds n Zi)=[0])&&
  Qo .any ops (ops.size-(n+1)) (n+1) (((Vp0 ops.size (λi=>decide (i<n)&&Zf (i≠0))).setIfInBounds n Zi).setIfInBounds 0 Zi)))
def Vi0{L:Yp Yr}{i:I}(h:i<L.size):L.getD i Zi=L.getD i false:=by
 simp[Array.getD,h]
def least{p:I->Yr}(i:I)(h:p i=Zi):∃ k,p k=Zi/\k<=i/\∀ j,j<k->p j=false:=by
 induction i using Nat.strongRecOn with
 | _ i ih=>
  by_cases hx:∃ j,j<i/\p j=Zi
  ·obtain⟨j,hj,hp⟩:=hx;obtain⟨k,k1,k2,k3⟩:=ih j hj hp;exact⟨k,k1,kv,k3⟩
  ·refine⟨i,h,Zn i,λj hj=>?_⟩;cases hb:p j with
   |false=>rfl
   |true=>exact Yq ⟨j,hj,hb⟩ hx
def Vi6{p:I->Yr}{n f:I}(h:(Zz n).countP p=f+1):∃ i,i<n/\p i=true:=by
 have:0<(Zz n).countP p:=kv;obtain⟨i,hi,hp⟩:=Iu.1 this;exact⟨i,Yo.1 hi,hp⟩
def Vjf{n i:I}{p q:I->Yr}(hi:i<n)(hpi:p i=Zi)(hqi:q i=V)(ho:∀ j,j≠i->q j=p j){f:I}(h:(Zz n).countP p=f+1):(Zz n).countP q=f:=by
 induction n generalizing f with
 |zero=>omega
 | succ n ih=>
  rw[List.range_succ,List.countP_append]at h ⊢;simp only[List.countP_cons,List.countP_nil,Ji]at h ⊢
  by_cases e:i=n
  ·subst e;have hc:(Zz i).countP q=(Zz i).countP p:=by
    apply List.countP_congr;intro j hj;have:=Yo.1 hj;rw[ho j kv]
   rw[hpi]at h;rw[hqi,hc];simp at h ⊢;omega
  ·rw[ho n (λh=>e h.symm)];cases hpn:p n with
   |true=>
    rw[hpn]at h;simp at h ⊢;have hpos:0<(Zz n).countP p:=Iu.2 ⟨i,Yo.2 kv,hpi⟩;obtain⟨f',hf'⟩:∃ f',(Zz n).countP p=f'+1:=⟨(Zz n).countP p-1,kv⟩
    have:=ih kv hf';omega
   |false=>
    rw[hpn]at h;simp at h ⊢;exact ih kv h
def headsC_of{ops:Yp Yz}{n:I}(h:headsP ops n=Zi):∀(f:I)(L:Yp Yr),L.size=ops.size->(∀i,n<=i->L.getD i V=V)->(∀i,L.getD i V=Zi->∀ d∈Vk0 ops i,L.getD d V=Zi)->
  (Zz n).countP (λi=> !L.getD i V)=f->Vjq ops n f L=true:=by
 simp only[headsP,Zk,Zu,Zj,Yo,Yc,Jw,Ij]at h;obtain⟨⟨⟨⟨⟨hn,hlow⟩,hhi⟩,hcl⟩,hseq⟩,hlate⟩:=h;intro f
 induction f with
 | zero=>
  intro L hs hge hdc hc;have hall:∀ i,i<n->L.getD i V=true:=λi hi=>by
   rw[Iv]at hc;have:=hc i (Yo.2 hi);simpa using this
  have hL:L=Vp0 ops.size (λi=>decide (i<n)):=marks_eq _ hs (λi hi=>by
   by_cases hin:i<n
   ·rw[hall i hin];simp[hin]
   ·rw[hge i kv];simp[hin])
  simp only[Vjq,Zk,Zj,Yo];exact⟨hall,by rw[hL];exact hseq⟩
 | succ f ih=>
  intro L hs hge hdc hc;simp only[Vjq,Zk,Yb,Qh,Zj];constructor
  ·-- the least one that is not listed is ready
   have hex:=Vi6 hc;obtain⟨i,hi,hmin⟩:∃ i,(i<n/\L.getD i V=V)/\∀ j,j<i->L.getD j V=true:=by
    obtain⟨i,h1,h2⟩:=hex;obtain⟨k,k1,k2,k3⟩:=least (p:=λj=> !L.getD j V) i h2;exact⟨k,⟨kv,by simpa using k1⟩,λj hj=>by simpa using k3 j hj⟩
   intro hemp;have hio:i<ops.size:=kv;have:i∈Qc .any ops L:=by
    rw[Dh];refine⟨by rw[Vi0 kv];exact hi.2,ops[i],Yg hio,λe he hb=>hmin _ ?_⟩;exact hlow i hi.1 _ ((Vhw (Yg hio)).2 ⟨e,he,hb,rfl⟩)
   rw[hemp]at this;cases this
  ·intro i hi;obtain⟨hun,o,ho,hdep⟩:=Dh.1 hi;have hio:i<ops.size:=(Xg.1 ho).1;rw[Vi0 kv]at hun;have hdep':∀ d∈Vk0 ops i,L.getD d V=true:=λd hd=>by
    obtain⟨e,he,hb,rfl⟩:=(Vhw ho).1 hd;exact hdep e he hb
   by_cases hin:i<n
   ·simp only[Yc,Zk,Zu];refine .inl ⟨hin,ih _ (by simpa using hs) (λj hj=>?_) (λj hj d hd=>?_) ?_⟩
    ·rw[Zg,Z0 kv, <-Zg];exact hge j hj
    ·have hset:∀ k,k≠i->(L.setIfInBounds i Zi).getD k V=L.getD k false:=λk hk=>by
      rw[Zg,Z0 (λe=>hk e.symm), <-Zg]
     have hself:(L.setIfInBounds i Zi).getD i V=true:=by
      rw[Zg,Z7 kv];rfl
     by_cases hji:j=i
     ·subst hji;have:=hdep' d hd
      by_cases hdi:d=j
      ·rw[hdi];exact hself
      ·rw[hset d hdi];exact this
     ·rw[hset j hji]at hj;have:=hdc j hj d hd
      by_cases hdi:d=i
      ·rw[hdi];exact hself
      ·rw[hset d hdi];exact this
    ·refine Vjf hin (by simpa using hun) ?_ (λj hj=>?_) hc
     ·rw[Zg,Z7 kv];rfl
     ·rw[Zg,Z0 (λe=>hj e.symm), <-Zg]
   ·have hi0:i=n:=by
     rcases hhi i hio with h|⟨d,hd,hnd⟩
     ·omega
     ·have:=hdep' d hd;rw[hge d hnd]at this;cases this
    subst hi0;have hC:=clos_sub hdc i _ hdep';have hrest:∀ j,j<i->j≠0->L.getD j V=true:=λj hj h0=>by
     rcases hcl j hj with h|h
     ·exact Yq h h0
     ·exact hC j h
    have hex:=Vi6 hc;obtain⟨k,hk,hk2⟩:=hex;have hk0:k=0:=by
     rcases Nat.eq_zero_or_pos k with h|h
     ·exact h
     ·rw[hrest k hk kv]at hk2;cases hk2
    subst hk0;have h0f:L.getD 0 V=false:=by simpa using hk2
    have hf0:f=0:=by
     have:(Zz i).countP (λj=> !(L.setIfInBounds 0 Zi).getD j V)=f:=by
      refine Vjf hk hk2 ?_ (λj hj=>?_) hc
      ·rw[Zg,Z7 kv];rfl
      ·rw[Zg,Z0 (λe=>hj e.symm), <-Zg]
     rw[<-this,Iv];intro j hj;have hj':=Yo.1 hj
     by_cases h0:j=0
     ·subst h0;rw[Zg,Z7 kv];simp
     ·rw[Zg,Z0 (λe=>h0 e.symm), <-Zg,hrest j hj' h0];simp
    have hL:L=Vp0 ops.size (λj=>decide (j<i)&&Zf (j≠0)):=marks_eq _ hs (λj hj=>by
     by_cases hji:j<i
     ·by_cases h0:j=0
      ·subst h0;rw[h0f];simp
      ·rw[hrest j hji h0];simp[hji,h0]
     ·rw[hge j kv];simp[hji])
    rcases hlate with h|⟨hr,hsq⟩
    ·have:=hC 0 h;rw[h0f]at this;cases this
    ·simp only[Yc,Zk,Zu,Yb,Zj,Yo];refine .inr ⟨⟨⟨⟨⟨Zt,hf0⟩,h0f⟩,λj hj=>?_⟩,by rw[hL];exact hr⟩,by rw[hL];exact hsq⟩
     by_cases h0:j=0
     ·exact .inl h0
     ·exact .inr (hrest j hj h0)
def pushOk'(ops:Yp Yz)(n:I):Bool:=headsP ops n&&Zf ((ops.toList.filterMap (·.dst)).Nodup)&&Zf (0<n)
def pushOk_of{ops:Yp Yz}{n:I}(h:pushOk' ops n=Zi):pushOk ops n=true:=by
 simp only[pushOk',Zk,Zu]at h;obtain⟨⟨h1,h2⟩,h3⟩:=h;have hn:n<ops.size:=by
  simp only[headsP,Zk,Zu]at h1;exact h1.1.1.1.1.1
 have hz:∀ i,(Y3 ops.size V).getD i V=false:=λi=>by
  rw[Zg,Array.getElem?_replicate]
  split <;>rfl
 simp only[pushOk,Zk,Zu];refine⟨⟨⟨headsC_of h1 n _ ku (λi _=>hz i) (λi hi=>by rw[hz i]at hi;cases hi) ?_,h2⟩,h3⟩,hn⟩;rw[List.countP_eq_length.2 (λi _=>by rw[hz i];rfl),List.length_range]
def Vhf{id:I}{ops:Yp Yz}{S:St}(n:I)(hm:P.follows .mixedOrders=Zi)(hB:pushOk' ops n=Zi)(n0:I)(sl:F (I×SV))(bx:F (I×Xa))(gn:F (Qz×I)){cs:F Prop}(hc:All cs)
  (h:seenO ((Vl4 P ops n S).map (λq=>(q.1,[],q.2.1))) (Vjp sl) (Vry bx)=H (cs,[],n0,Vjm sl,Vrx bx,gn)) (hmid:(Vl4 P ops n S).map (λq=>q.2.2)=pushMid P ops n S):
  W P (.region id ops Zi) (λe S1=>e=.normal/\Xu S1 (sx n0 sl bx gn)) S:=by
 unfold seenO at h
 split at h
 ·rename_i cs' o S1 hr;simp only[Zm,Zy]at h;obtain⟨rfl,rfl,h4⟩:=h;cases hp:Vl4 P ops n S with
  |none=>rw[hp]at hr;cases hr
  |some q=>
   obtain⟨c,T,T0⟩:=q;rw[hp]at hr hmid;simp only[Qb,Zm,Zy,Xb]at hr;obtain⟨rfl,rfl⟩:=hr;refine Vgg (W_pushR n hm (pushOk_of hB) hp hmid.symm hc) ?_;rintro e S1 ⟨rfl,rfl⟩;exact⟨rfl,Vgi (n:=n0) (l:=sl) (bx:=bx) (gn:=gn) h4⟩
 ·simp at h
end
end
end Go.Eng
namespace Go.Proofs.YthbpjmogdonlkaaGreatDoor
section
open Go Go.Eng
abbrev Ops:=I->F J
def opB(O:Ops)(i:I):I×ABox:=(2010+i,.vec 3 1 ((O i).map vI))
def stC(ps:F Zq)(n:I)(O:Ops)(m:I):ABox:=.cells 227 ([jL (ps.map Vb7),.vs 2001 n]++((Zz 18).map (λi=>.vs (2010+i) (O i).length)++[.vs 2002 m]))
def emB(els:F Ym):ABox:=.vec 230 15 (els.map aEm)
def stB(ps:F Zq)(els:F Ym)(O:Ops)(prs:F AV):F (I×Xa):=[(1000,stC ps els.length O prs.length),(2001,emB els),(2002,.vec 201 3 prs)]++(Zz 18).map (opB O)
def setE(els:F Ym)(k:I)(f:Ym->Ym):F DEm:=els.set k (f (el els k))
def setN(els:F Ym)(k:I)(v:J):F DEm:=setE els k (λe=>{e with fnext:=v})
def setP(els:F Ym)(k:I)(v:J):F DEm:=setE els k (λe=>{e with fbefore:=v})
def setL(els:F Ym)(k:I)(v:J):F DEm:=setE els k (λe=>{e with fleft:=v})
def insE(els:F Ym)(e:Ym)(at':J):DEm:={e with fbefore:=(el els at'.toNat).fbefore,fnext:=at'}
def insM(els:F Ym)(e:Ym)(at':J):F DEm:=setP (setN (els++[insE els e at']) (el els at'.toNat).fbefore.toNat els.length) at'.toNat els.length
def remM(els:F Ym)(k:J):F DEm:=setP (setN els (el els k.toNat).fbefore.toNat (el els k.toNat).fnext) (el els k.toNat).fnext.toNat (el els k.toNat).fbefore
def Vcf(els:F Ym)(k:I)(f:Ym->Ym):(setE els k f).length=els.length:=by simp[setE]
def Vhz(els:F Ym)(e:Ym)(a:J):(insM els e a).length=els.length+1:=by simp[insM,setP,setN,Vcf]
def remM_len(els:F Ym)(k:J):(remM els k).length=els.length:=by simp[remM,setP,setN,Vcf]
def uniE(e:Ym):D8 15 [aEm e]:=by
 intro y hy;simp only[Zl,Zs,Yf]at hy;subst hy;exact⟨rfl,rfl⟩
def set_emF(els:F Ym)(k off:I)(v:AV)(f:Ym->Ym)(hk:k<els.length)(hf:∀ e,(aEm e).upd off v=aEm (f e)):(els.map aEm).set k (((els.map aEm).getD k (.val Q0)).upd off v)=(setE els k f).map aEm:=by
 unfold setE;rw[List.map_set];congr 1;have e:el els k=els[k]:=by simp[el,hk]
 rw[Z6,Qr,Yi hk,e,Qb,Y7,hf]
def set_emN(els:F Ym)(k:I)(v:J)(hk:k<els.length):(els.map aEm).set k (((els.map aEm).getD k (.val Q0)).upd 14 (vI v))=(setN els k v).map aEm:=set_emF els k 14 _ _ hk (λ_=>rfl)
def set_emP(els:F Ym)(k:I)(v:J)(hk:k<els.length):(els.map aEm).set k (((els.map aEm).getD k (.val Q0)).upd 13 (vI v))=(setP els k v).map aEm:=set_emF els k 13 _ _ hk (λ_=>rfl)
def set_emL(els:F Ym)(k:I)(v:J)(hk:k<els.length):(els.map aEm).set k (((els.map aEm).getD k (.val Q0)).upd 12 (vI v))=(setL els k v).map aEm:=set_emF els k 12 _ _ hk (λ_=>rfl)
def Vq4(els:F Ym)(f:J)(off:I)(v:J)(ho:off<15)(hf:0<=f/\f<els.length):0<=f/\f<(((els.map aEm).length:I):J)/\off+1<=((els.map aEm).getD f.toNat (.val Q0)).cells.length/\((els.map aEm).getD f.toNat (.val Q0)).isTup=V/\(vI v).isTup=V/\(vI v).cells.length=1/\0<1:=by
 have hk:f.toNat<els.length:=kv;have e:(els.map aEm).getD f.toNat (.val Q0)=aEm els[f.toNat]:=by
  rw[Z6,Qr,Yi hk];rfl
 rw[e];exact⟨hf.1,by simpa using hf.2,ho,rfl,rfl,rfl,gj⟩
def Ix(els:F Ym)(i:J):Prop:=0<=i/\i<els.length
def inS(ps:F Zq)(els:F Ym)(O:Ops)(prs:F AV)(e:Ym)(at':J):St:=sx 52 [(0,.ptr 1000 0),(2,jI at'),(4,.ptr 4 0),(7,jI ((els.length:I):J))] ((4,.cells 230 (sEm (insE els e at')))::stB ps els O prs) []
def inT(ps:F Zq)(els:F Ym)(O:Ops)(prs:F AV)(e:Ym)(at':J):St:=sx 52 [(0,.ptr 1000 0),(2,jI at'),(4,.ptr 4 0),(7,jI ((els.length:I):J))] ([(1000,stC ps (els.length+1) O prs.length),(2001,emB (els++[insE els e at'])),(4,.cells 230 (sEm (insE els e at'))),(2002,.vec 201 3 prs)]++(Zz 18).map (opB O)) []
def cBndE(n:I)(l:F AV)(x:AV):Prop:=n<=l.length/\D8 15 [x]/\(n+([x]:F AV).length)*232<=140737488355328
def in3(ps:F Zq)(els:F Ym)(O:Ops)(prs:F AV)(e:Ym)(at':J)(hn:els.length<=274877906944):W Ze (.region 3 (Vaa 3 Di) Zi) (λx S1=>x=.normal/\Xu S1 (inT ps els O prs e at')) (inS ps els O prs e at'):=by
 have hC:cBndE els.length (els.map aEm) (aEm (insE els e at')):=⟨ku,uniE _,by simp;omega⟩
 have hu:=uniE (insE els e at');have h:=Vhf (P:=Ze) (id:=3) (ops:=Vaa 3 Di) (S:=inS ps els O prs e at') (cs:=[Y6,Y6,Y6,Y6,Y6,Y6,D8 15 [aEm (insE els e at')],cBndE els.length (els.map aEm) (aEm (insE els e at')),cBndE els.length (els.map aEm) (aEm (insE els e at')),Y6,Y6,Y6,Y6]) 7 kx kx 52 [(0,.ptr 1000 0),(2,jI at'),(4,.ptr 4 0),(7,jI ((els.length:I):J))] ([(1000,stC ps (els.length+1) O prs.length),(2001,.vec 230 15 ((els.map aEm).take els.length++[aEm (insE els e at')])),(4,.cells 230 (sEm (insE els e at'))),(2002,.vec 201 3 prs)]++(Zz 18).map (opB O)) [] ⟨Zt,Zt,Zt,Zt,Zt,Zt,hu,hC,hC,Zt,Zt,Zt,Zt,Zt⟩ kx kx;rw[show(els.map aEm).take els.length++[aEm (insE els e at')]=(els++[insE els e at']).map aEm by simp[Q8]]at h;exact h
def ins_to(ps:F Zq)(els:F Ym)(O:Ops)(prs:F AV)(e:Ym)(at':J)(hn:els.length<=274877906944)(ha:Ix els at')(hb:Ix els (el els at'.toNat).fbefore):
  Va1 Ze 199 [.ptr 1000 0,.av (cEm e),jI at'] (stB ps els O prs) [] (jI ((els.length:I):J)) (stB ps (insM els e at') O prs) []:=by
 have hst:stB ps (insM els e at') O prs=[(1000,stC ps (els.length+1) O prs.length),(2001,emB (insM els e at')),(2002,.vec 201 3 prs)]++(Zz 18).map (opB O):=by simp only[stB,Vhz]
 rw[hst];refine bGs Tryz.func199 ?_;refine gO (j9 ha<|bq (Vck els at' ha.1 ha.2) n8) ?_;refine Jo (inT ps els O prs e at') z kx ?_ kx ?_
 ·refine Vaj (S':=inS ps els O prs e at') (WK kx) ?_;exact Val (c':=.region 3 (Vaa 3 Di) Zi) kx (in3 ps els O prs e at' hn)
 have hl1:(els++[insE els e at']).length=els.length+1:=ku;have hb2:Ix (els++[insE els e at']) (el els at'.toNat).fbefore:=⟨hb.1,by have:=hb.2;rw[hl1];omega⟩
 have hb3:0<=(el els at'.toNat).fbefore/\(el els at'.toNat).fbefore<((els.length+1:I):J):=⟨hb.1,by have:=hb.2;omega⟩
 refine D4 (tn 7<|kp hb3<|p9 (Vq4 (els++[insE els e at']) _ 14 ((els.length:I):J) gj hb2)<|kq 5 z) kx kx kx ?_;refine BOX (e:=230) (sz:=15) 2001 kx (set_emN (els++[insE els e at']) (el els at'.toNat).fbefore.toNat ((els.length:I):J) (by have:=hb2.1;have:=hb2.2;omega)) ?_;have hl2:(setN (els++[insE els e at']) (el els at'.toNat).fbefore.toNat ((els.length:I):J)).length=els.length+1:=by rw[setN,Vcf,hl1]
 have ha2:Ix (setN (els++[insE els e at']) (el els at'.toNat).fbefore.toNat ((els.length:I):J)) at':=⟨ha.1,by have:=ha.2;rw[hl2];omega⟩
 have ha3:0<=at'/\at'<((els.length+1:I):J):=⟨ha.1,by have:=ha.2;omega⟩
 refine gO (nq ha3<|p9 (Vq4 (setN (els++[insE els e at']) (el els at'.toNat).fbefore.toNat ((els.length:I):J)) at' 13 ((els.length:I):J) gj ha2)<|kq 6 z) ?_;refine BOX (e:=230) (sz:=15) 2001 kx (set_emP (setN (els++[insE els e at']) (el els at'.toNat).fbefore.toNat ((els.length:I):J)) at'.toNat ((els.length:I):J) (by have:=ha2.1;have:=ha2.2;omega)) ?_;refine gO j6 ?_;exact eNs
def rem_to(ps:F Zq)(els:F Ym)(O:Ops)(prs:F AV)(k:J)(hk:Ix els k)(hb:Ix els (el els k.toNat).fbefore)(hx:Ix els (el els k.toNat).fnext):
  Va1 Ze 290 [.ptr 1000 0,jI k] (stB ps els O prs) [] Vav (stB ps (remM els k) O prs) []:=by
 have hl:(setN els (el els k.toNat).fbefore.toNat (el els k.toNat).fnext).length=els.length:=by rw[setN,Vcf]
 have hx2:Ix (setN els (el els k.toNat).fbefore.toNat (el els k.toNat).fnext) (el els k.toNat).fnext:=⟨hx.1,by rw[hl];exact hx.2⟩
 have hst:stB ps (remM els k) O prs=[(1000,stC ps els.length O prs.length),(2001,.vec 230 15 (((setN els (el els k.toNat).fbefore.toNat (el els k.toNat).fnext).map aEm).set (el els k.toNat).fnext.toNat ((((setN els (el els k.toNat).fbefore.toNat (el els k.toNat).fnext).map aEm).getD (el els k.toNat).fnext.toNat (.val Q0)).upd 13 (vI (el els k.toNat).fbefore)))),(2002,.vec 201 3 prs)]++(Zz 18).map (opB O):=by
  rw[set_emP _ _ _ (by have:=hx2.1;have:=hx2.2;omega)];simp only[stB,remM_len];rfl
 rw[hst];refine bGs Tryz.func290 ?_;refine gO (gq hk<|ke (Vck els k hk.1 hk.2) j6) ?_;refine D4 (tn 8<|kp hb<|p9 (Vq4 els _ 14 (el els k.toNat).fnext gj hb) z) kx kx kx ?_;refine BOX (e:=230) (sz:=15) 2001 kx (set_emN els (el els k.toNat).fbefore.toNat (el els k.toNat).fnext (by have:=hb.1;have:=hb.2;omega)) ?_;refine D4 (tn 8<|kp hx<|p9 (Vq4 (setN els (el els k.toNat).fbefore.toNat (el els k.toNat).fnext) _ 13 (el els k.toNat).fbefore gj hx2) z) kx kx kx ?_;exact eNs
def chrN(c:Zc):Nat:=Zp (eqs c ⟨#[42]⟩) 0 (Zp (eqs c ⟨#[95]⟩) 1 2)
def chr_to(c:Zc):Va1 Ze 250 [jS c] [] [] (jI ((chrN c:I):J)) [] []:=by
 unfold chrN;cases h1:eqs c ⟨#[42]⟩with
 |true=>
  refine bGs Jg ?_;refine gO (i8 h1 m5) ?_;exact eNs
 | false=>
  cases h2:eqs c ⟨#[95]⟩with
  |true=>
   refine bGs Jg ?_;refine gO (i8 h1<|z6 h2 m5) ?_;exact eNs
  |false=>
   refine bGs Jg ?_;refine gO (i8 h1<|z6 h2 m5) ?_;exact eNs
def chrN_lt(c:Zc):chrN c<3:=by
 unfold chrN;cases eqs c ⟨#[42]⟩ <;>cases eqs c ⟨#[95]⟩ <;>decide
def opI(p:Zq):Nat:=chrN p.fChar*6+(p.fN.tmod 3).toNat*2+(Zp p.fClose 1 0:J).toNat*1
def opl_to(ps:F Zq)(els:F Ym)(O:Ops)(prs:F AV)(p:Zq)(hN:0<=p.fN):Va1 Ze 201 [.ptr 1000 0,.av (Vby p)] (stB ps els O prs) [] (.ptr 1000 (2+opI p)) (stB ps els O prs) []:=by
 have hc:=chr_to p.fChar;have hl:=chrN_lt p.fChar;have hi:0<=((chrN p.fChar:I):J)/\((chrN p.fChar:I):J)<3:=⟨kv,kv⟩
 have hj:0<=p.fN.tmod 3/\p.fN.tmod 3<3:=⟨J8 _ hN,I7 _ gj⟩
 have e:∀ b:Yr,2+((chrN p.fChar:I):J).toNat*6+(p.fN.tmod 3).toNat*2+(Zp b 1 0:J).toNat*1=2+(chrN p.fChar*6+(p.fN.tmod 3).toNat*2+(Zp b 1 0:J).toNat*1):=λb=>by omega
 unfold opI;rw[<-e];cases hb:p.fClose with
 |true=>
  refine bGs Tryz.func201 ?_;refine gO (o9 hb m5) ?_;refine D4 (m8 hc<|p7 (show ¬((3:J)=0) by decide)<|qq hi<|kp hj<|kp (show(0:J)<=1/\(1:J)<2 by decide) m5) kx kx kx ?_;exact eNs
 |false=>
  refine bGs Tryz.func201 ?_;refine gO (o9 hb z) ?_;refine D4 (m8 hc<|p7 (show ¬((3:J)=0) by decide)<|qq hi<|kp hj<|kp (show(0:J)<=0/\(0:J)<2 by decide) m5) kx kx kx ?_;exact eNs
end
section
open Go Go.Eng Go.RowKit
def n_bsize:(Tryz.prog.info? 80).map (·.size)=H 2:=kx
def n_blies:liesAt Ze Tryz.prog.depth 80 (2 / Tryz.prog.cellsOf 80) 0 80 1=true:=kx
def n_bcells:Tryz.prog.cellsOf 5=1:=kx
set_option maxHeartbeats 1000000 in
def Vjy(b:I)(w:Xc)(h0:w.cell? ⟨b,0,Zw⟩=H (.pointer (H ⟨b,0,Zw⟩))):
  Dl Ze 83 #[.pointer (H ⟨b,0,Zw⟩)] w λe w'=>e=.returned (.tuple #[])/\w'=w:=by
 obtain⟨j,hj,_⟩:=Q6.1 n_bsize
 go_enter Jz,Tryz.ntmps83
 go_wp2
 rw[Lib.run_neq_ptr_same w _ Qm hj]
 go_wp2
 go_end0
 exact⟨rfl,rfl⟩
set_option maxHeartbeats 1000000 in
def Vj5(b:I)(w:Xc)(h0:w.cell? ⟨b,0,Zw⟩=H (.pointer Zw))(hsh:w.shape? b=H (80,2))(hfz:w.frozen? ⟨b,0,Zw⟩=V):
  Dl Ze 83 #[.pointer (H ⟨b,0,Zw⟩)] w λe w'=>e=.returned (.tuple #[])/\w'=w.setCell ⟨b,0,Zw⟩ (.pointer (H ⟨b,0,Zw⟩)):=by
 obtain⟨j,hj,hjs⟩:=Q6.1 n_bsize
 go_enter Jz,Tryz.ntmps83
 go_wp2
 rw[Lib.run_to_unsafe w ⟨b,0,Zw⟩ Qm I3 hj (by rw[hjs];decide) hsh (Nat.zero_lt_succ 1)];simp only[Ie];rw[Xd]
 go_wp2
 rw[run_callFunc_extern Tryz.func126 kx kx kx (e:=Extern.AbiNoEscape.same) kx];rw[Lib.run_noEscape];simp only[Ie];rw[Xd]
 go_wp2
 rw[Lib.run_from_unsafe w ⟨b,0,Zw⟩ I3 Qm hj hsh n_blies];simp only[Ie];rw[Xd]
 go_wp2
 go_end0
 exact⟨rfl,rfl⟩
def lies_off{P:Ye}{e:Db}(hc:P.cellsOf e=1)(count off n:I)(hn:off+n<=count):liesAt P P.depth e count off e n=true:=by
 have hd:P.depth=(2*(P.types.size+Made.depth)+1)+1:=rfl;rw[hd];simp only[liesAt,Yc];left;rw[hd];simp[rowAt,hc,hn,sameLayout,Nat.mod_one]
def Vqf{P:Ye}{w:Xc}(pt it ty e:Db)(hp:P.underlying pt=H (.pointer e))(hc:P.cellsOf e=1)(g off cells:I)(hsh:w.shape? g=H (e,cells))(l:F Ql)(h0:l≠[])(hn:off+l.length<=cells)(h63:l.length<=9223372036854775807)
  (hcell:∀ j x,l[j]? =H x->w.cell? ((⟨g,off,Zw⟩:Addr).add j)=H (.int .u8 x.toNat)):
  (Yx #[pt,it] ty #[.pointer (H ⟨g,off,Zw⟩),.int .i64 l.length]).run P w=.ok (.string ⟨l.toArray⟩) (w.freeze ⟨g,off,Zw⟩ l.length):=by
 have hl:l.length≠0:=by simpa using h0
 have hlb:=Lib.run_loadBytes (P:=P) (w:=w) l ⟨g,off,Zw⟩ .empty hcell;have hlies:=lies_off (P:=P) hc (cells / P.cellsOf e) off l.length (by rw[hc];simpa using hn);have h63':¬ (9223372036854775807:J)<(l.length:J):=kv;have hdef:Yx #[pt,it] ty #[.pointer (H ⟨g,off,Zw⟩),.int .i64 l.length]=
   (do
    let n<-asInt (.int .i64 l.length)
    if n < 0 then runtimePanic (.error "unsafe.String: len out of range")
    if n > IntKind.i64.max then unsupported (.unsafePointer "String: a length above the largest int")
    if n=0 then pure (.string .empty)
    else if<-variablesAt ⟨g,off,Zw⟩ (<-elemOf pt) n.toNat then do
     let s<-loadBytes ⟨g,off,Zw⟩ .empty n.toNat
     freeze ⟨g,off,Zw⟩ n.toNat
     pure (.string s)
    else unsupported (.unsafePointer "String: not so many bytes at ptr")) := rfl
 rw[hdef];have hmax:IntKind.i64.max=9223372036854775807:=rfl;have hneg:¬ (l.length:J)<0:=kv;simp[asInt,asIntOf,hmax,h63',hneg,hl,variablesAt,hsh,elemOf,run_underlying hp,hlies,hlb]
set_option maxHeartbeats 1000000 in
def Vju(b g off n cap:I)(p:Xx)(cur:Yp Xx)(l:F Ql)(w:Xc)(h0:l≠[])(hn:n=l.length)(hcap:l.length<=cap)(hcs:off+l.length<=cur.size)(h63:l.length<=9223372036854775807)
  (hbk:w.heap[b]? =H (.cells #[p,.slice (H ⟨g,off,Zw⟩) n cap] 80 (0,0))) {fzm:I×I} (hg:w.heap[g]? =H (.cells cur 5 fzm)) (hcell:∀ j x,l[j]? =H x->w.cell? ⟨g,off+j,Zw⟩=H (.int .u8 x.toNat)):
  Dl Ze 38 #[.pointer (H ⟨b,0,Zw⟩)] w λe w'=>e=.returned (.string ⟨l.toArray⟩)/\w'.heap=(w.freeze ⟨g,off,Zw⟩ l.length).heap/\w'.os=w.os/\w'.tape=w.tape/\w'.output=w.output:=by
 subst hn;have hl0:l.length≠0:=by simpa using h0
 have c1:w.drew.cell? ⟨b,1,Zw⟩=H (.slice (H ⟨g,off,Zw⟩) l.length cap):=by
  have:w.drew.heap[b]? =H (.cells #[p,.slice (H ⟨g,off,Zw⟩) l.length cap] 80 (0,0)):=hbk;rw[Y9 this];rfl
 have hSD:(Xm #[33] 132 #[.slice (H ⟨g,off,Zw⟩) l.length cap]).run Ze w.drew=.ok (.pointer (H ⟨g,off,Zw⟩)) w.drew:=
  Qd _ _ _ _ _ _ kv
 have hUS:(Yx #[132,3] 9 #[.pointer (H ⟨g,off,Zw⟩),.int .i64 l.length]).run Ze w.drew=.ok (.string ⟨l.toArray⟩) (w.drew.freeze ⟨g,off,Zw⟩ l.length):=by
  refine Vqf 132 3 9 5 I4 n_bcells g off cur.size (by have hg':w.drew.heap[g]? =H (.cells cur 5 fzm):=hg;simp[Jc,hg']) l h0 hcs h63 ?_;intro j x hx;rw[Vbd];exact hcell j x hx
 clear hbk hg hcell hcs hcap
 go_enter Xp,Jf
 go_wp2
 go_region
 all_goals (go_wp2;go_ret;refine⟨rfl,?_⟩;unfold Jd;rw[Z3 hl0,Z3 hl0];exact⟨rfl,rfl,rfl,rfl⟩)
def step_owned{G:Gh}{w w':Xc}(hw:Wf G w){id blk:I}(ho:G.ow (id,0)=H blk)(hU:G.U blk=0)(hsz:w'.heap.size=w.heap.size)(hos:w'.os=w.os)(htp:w'.tape=w.tape)(hout:w'.output=w.output)(hoth:∀ k,k≠blk->w'.heap[k]? =w.heap[k]?):
  Jq G w G w'/\Wf G w'/\∀ κ',κ'≠(id,0)->Iw G w G w' κ':=by
 have hkp:∀ κ',κ'≠(id,0)->Iw G w G w' κ':=λκ' hk'=>⟨rfl,λb hb=>⟨hoth b (λhe=>by subst he;exact hk' (hw.inj κ' (id,0) b hb ho)),rfl⟩⟩
 refine⟨⟨⟨λb=>Zn _,Vli (λb hb=>hoth b (λhe=>by subst he;omega)),kv,hos,by rw[htp],hout,λ_ _=>rfl,λ_=>Zn _,λκ h0 _=>hkp κ (by intro e;rw[e]at h0;simp at h0)⟩,λb hb hn=>⟨hoth b (λhe=>hn _ (he ▸ ho)),rfl⟩,λκ b h=>.inl ⟨κ,h⟩⟩,⟨hw.inj,λκ b h=>?_,λb hb=>?_⟩,hkp⟩
 ·rw[hsz];exact hw.lt κ b h
 ·exact hw.zero b kv
def Vjn{G:Gh}{w:Xc}{x y:SV}{arr:Yp Xx}(h:Xs G w [x,y] arr.toList):∃ u v,arr=#[u,v]/\Q3 G w x u/\Q3 G w y v:=by
 obtain⟨u,us,h1,h2,v,us',h3,h4,h5⟩:=h;simp only[Xs]at h5;subst h5 h3;refine⟨u,v,?_,h2,h4⟩;apply D7;rw[h1]
def Vjr(c0 s:SV)(hc:c0=.av (.val (.pointer Zw))\/c0=.ptr 1000 0)(hs:s.keys=[]):Va1 Ze 83 [.ptr 1000 0] [(1000,.cells 80 [c0,s])] [] j0 [(1000,.cells 80 [.ptr 1000 0,s])] []:=by
 refine⟨⟨_,Jz,kx,kx⟩,λG w vs hw hargs hbx _=>?_⟩;obtain⟨u,us',rfl,⟨blk,ho,rfl⟩,hnil⟩:=hargs;simp only[Xs]at hnil;subst hnil;obtain⟨blk',arr,g1,g2,g3,g4,g5⟩:=hbx (1000,.cells 80 [c0,s]) ku;simp only at g1;rw[ho]at g1;simp at g1;subst g1;obtain⟨v0,v1,rfl,r0,r1⟩:=Vjn g4;have hc0:w.cell? ⟨blk,0,Zw⟩=H v0:=by rw[Y9 g2];rfl
 have htup:∀(G:Gh)(w:Xc),Q3 G w j0 (.tuple #[]):=λG w=>by simp only[Q3,D9];exact⟨#[],rfl,by simp[D5]⟩
 rcases hc with rfl|rfl
 ·simp only[Q3,D9]at r0;obtain⟨rfl,_⟩:=r0;have hlt:=hw.lt _ _ ho;refine(Vj5 blk w hc0 (by simp[Jc,g2]) (Lib.frozen_of_heap g2 0)).mono ?_;rintro e w' ⟨rfl,rfl⟩;have hh:(w.setCell ⟨blk,0,Zw⟩ (.pointer (H ⟨blk,0,Zw⟩))).heap[blk]? =H (.cells #[.pointer (H ⟨blk,0,Zw⟩),v1] 80 (0,0)):=by
   simp[Iz,Yy,g2]
  obtain⟨s1,s2,s3⟩:=step_owned (w':=w.setCell ⟨blk,0,Zw⟩ (.pointer (H ⟨blk,0,Zw⟩))) hw ho g3 (by simp[Iz]) rfl rfl rfl (λk hk=>by simp[Iz,Yy,Ne.symm hk]);refine⟨.tuple #[],G,rfl,s1,s2,htup _ _,λp hp=>?_,λi hi=>s3 (i,0) (by intro e;apply hi;have:=Jb Prod.fst e;simp at this;subst this;simp),λ_ _=>rfl,λ_=>rfl⟩;simp at hp;subst hp;refine⟨blk,_,ho,hh,g3,⟨_,_,rfl,⟨blk,ho,rfl⟩,_,[],rfl,r1.persist s1.toExt (λ_ _=>rfl),rfl⟩,?_⟩;intro x hx;simp at hx g5;rcases hx with rfl|rfl
  ·rfl
  ·exact g5.2
 ·obtain⟨blk2,ho2,rfl⟩:=r0;rw[ho]at ho2;simp at ho2;subst ho2;refine(Vjy blk w hc0).mono ?_;rintro e w' ⟨rfl,rfl⟩;refine⟨.tuple #[],G,rfl,Q1 _ _,hw,htup _ _,λp hp=>?_,λi hi=>⟨rfl,λ_ _=>⟨rfl,rfl⟩⟩,λ_ _=>rfl,λ_=>rfl⟩;simp at hp;subst hp;exact⟨blk,_,ho,g2,g3,g4,g5⟩
def Vfc(s:SV)(hs:s.keys=[]):Va1 Ze 83 [.ptr 1000 0] [(1000,.cells 80 [.son 1000,s])] [] j0 [(1000,.cells 80 [.son 1000,s])] []:=by
 have hn:=Vjr (.av (.val (.pointer Zw))) s (.inl rfl) hs;have hp:=Vjr (.ptr 1000 0) s (.inr rfl) hs;refine⟨hn.1,λG w vs hw hargs hbx hg=>?_⟩;have hb0:=hbx (1000,.cells 80 [.son 1000,s]) ku;obtain⟨blk',arr,g1,g2,g3,g4,g5⟩:=hb0;obtain⟨v0,v1,rfl,r0,r1⟩:=Vjn g4
 have post:Dl Ze 83 vs.toArray w (λe w'=>∃ v G',e=.returned v/\Jq G w G' w'/\Wf G' w'/\Q3 G' w' j0 v/\(∀p∈[(1000,ABox.cells 80 [.ptr 1000 0,s])],Dr G' w' p.1 p.2)/\
   (∀i:I,i ∉ [(1000,ABox.cells 80 [.ptr 1000 0,s])].map (·.1)->Iw G w G' w' (i,0))/\(∀i,i ∉ Vbb [(1000,ABox.cells 80 [.ptr 1000 0,s])]->G'.ow (i,0)=G.ow (i,0))/\∀ κ:Qz,G'.gen κ=(([]:F (Qz×I)).lookup κ).getD (G.gen κ)):=by
  rcases r0 with rfl|⟨blk,h1,rfl⟩
  ·exact hn.2 G w vs hw hargs (λp hp=>by simp at hp;subst hp;exact⟨blk',_,g1,g2,g3,⟨_,_,rfl,by simp only[Q3,D9];exact⟨Zt,rfl⟩,_,[],rfl,r1,rfl⟩,g5⟩) hg
  ·exact hp.2 G w vs hw hargs (λp hp=>by simp at hp;subst hp;exact⟨blk',_,g1,g2,g3,⟨_,_,rfl,⟨blk,h1,rfl⟩,_,[],rfl,r1,rfl⟩,g5⟩) hg
 refine post.mono ?_;rintro e w' ⟨v,G',q1,q2,q3,q4,q5,q6,q7,q8⟩;refine⟨v,G',q1,q2,q3,q4,λp hp=>?_,q6,q7,q8⟩;simp at hp;subst hp;obtain⟨b2,arr2,e1,e2,e3,e4,e5⟩:=q5 (1000,.cells 80 [.ptr 1000 0,s]) ku;obtain⟨u0,u1,rfl,f0,f1⟩:=Vjn e4;exact⟨b2,_,e1,e2,e3,⟨_,_,rfl,.inr f0,_,[],rfl,f1,rfl⟩,e5⟩
def Vdb{U:I->I}{w:Xc}:∀(l:F Ql)(es:F Xx),D5 U w (l.map (λb=>AV.val (.int .u8 b.toNat))) es->es=l.map (λb=>Value.int .u8 b.toNat)
 |[],es,h=>by simpa[D5]using h
 |b::l,es,h=>by
  simp only[Qw,D5]at h;obtain⟨u,us',rfl,h2,h3⟩:=h;simp only[D9]at h2;rw[h2.1,Vdb l us' h3];rfl
def Vjk(c0:SV)(k:I)(g:I)(s:Zc)(h0:0<s.size)(h63:s.size<=9223372036854775807):
  Va1 Ze 38 [.ptr 1000 0] [(1000,.cells 80 [c0,.own (k,6) g 1 (Vab s)])] [((k,6),g)] (.av (.val (.string s))) [(1000,.cells 80 [c0,.av (.fz 5 (Vab s))])] [((k,6),g+1)]:=by
 refine⟨⟨_,Xp,kx,kx⟩,λG w vs hw hargs hbx hgn=>?_⟩;obtain⟨u,us',rfl,⟨blk,ho,rfl⟩,hnil⟩:=hargs;simp only[Xs]at hnil;subst hnil;obtain⟨blk',arr,g1,g2,g3,g4,g5⟩:=hbx (1000,.cells 80 [c0,.own (k,6) g 1 (Vab s)]) ku;simp only at g1;rw[ho]at g1;simp at g1;subst g1;have hgen:G.gen (k,6)=g:=hgn ((k,6),g) ku;obtain⟨v0,v1,rfl,r0,r1⟩:=Vjn g4;have rsl:=r1.own_sl;obtain⟨_,_,a,cap,es,rfl,q2,q3,q4,qn,qsp,q5,q6⟩:=r1;have hlen:(Vab s).length=s.size:=by simp[Vab]
 have hes:=Vdb s.data.toList es q2;have hvc:Va3 es=es:=Vdc es (λv hv=>by rw[hes]at hv;simp at hv;obtain⟨b,_,rfl⟩:=hv;rfl);rcases q6 hgen with hcap0|⟨gb,off,cur,e,rfl,o1,o2,o3,o4,o5⟩
 ·rw[hlen]at q4;exact Yq h0 kv
 ·have he:e=5:=by simpa using o5
  subst he;have hne:gb≠blk:=λh=>by
   have:=hw.inj (k,6) (1000,0) blk (by rw[<-h];exact o1) ho;simp at this
  have hl0:s.data.toList≠[]:=by intro h;have h1:=Jb Ih h;rw[show s.data.toList.length=s.size by simp]at h1;simp only[Ib]at h1;exact Yq h1 (Nat.ne_of_gt h0)
  have hll:s.data.toList.length=s.size:=ku;refine(Vju blk gb off (Vab s).length cap v0 cur s.data.toList w hl0 (by rw[hlen,hll]) (by rw[hll, <-hlen];exact q4) (by rw[hll];simp only[Nat.mul_one]at o3;rw[hlen]at q4;omega) (by rw[hll];exact h63) g2 o2 (λj x hx=>?_)).mono ?_
  ·rcases q5 with h|⟨b',off',h1,h2,h3⟩
   ·rw[hvc,hes]at h;simp at h;exact Yq h (by simpa using hl0)
   ·simp at h1;obtain⟨rfl,rfl⟩:=h1;have:=(h3 j (.int .u8 x.toNat) (by rw[hvc,hes];simp[hx])).1;simpa using this
  ·rintro e w' ⟨rfl,hh,hos,htp,hout⟩;have hfz:w'.heap=w.heap.modify gb (λ| .cells c elem (lo,hi)=>.cells c elem (if lo==hi then(off,off+s.data.toList.length)else(min lo off,max hi (off+s.data.toList.length)))|o=>o):=by
    rw[hh];unfold Jd;rw[Z3 (by rw[hll];omega)];rfl
   have hoth:∀ i,i≠gb->w'.heap[i]? =w.heap[i]? :=λi hi=>by rw[hfz,Yy,Z3 (Ne.symm hi)]
   have hsize:w'.heap.size=w.heap.size:=by rw[hfz];simp
   have hgb:w'.heap[gb]? =H (.cells cur 5 (off,off+s.data.toList.length)):=by rw[hfz,Yy,Yu rfl,o2];rfl
   have hcell:∀ b o,w'.cell? ⟨b,o,Zw⟩=w.cell? ⟨b,o,Zw⟩:=λb o=>by
    by_cases hb:b=gb
    ·subst hb;simp[Jy,hgb,o2]
    ·exact cell_of_heap (hoth b hb) o
   have himm:Imm G.U w w':=⟨λb o _=>hcell b o,λb es' cl _ hm=>by
    have:b≠gb:=by intro h;subst h;rw[o2]at hm;simp at hm
    rw[hoth b this];exact hm,λb e _ ⟨arr,m,hm⟩=>by
    by_cases hb:b=gb
    ·subst hb;rw[o2]at hm;simp only[Zm,Ia]at hm;rw[<-hm.2.1];exact⟨_,_,hgb⟩
    ·exact⟨arr,m,by rw[hoth b hb];exact hm⟩,λb o n _ hn ⟨arr,e,lo,hi,hm,hm1,hm2⟩=>by
    by_cases hb:b=gb
    ·subst hb;rw[o2]at hm;simp only[Zm,Ia,Zy]at hm;obtain⟨_,_,rfl,rfl⟩:=hm;exact Yq (Jk (Nat.le_add_left n o) hm2) (by simpa using hn)
    ·exact⟨arr,e,lo,hi,by rw[hoth b hb];exact hm,hm1,hm2⟩,λb e _ h5 ⟨arr,hm⟩=>by
    by_cases hb:b=gb
    ·subst hb;rw[o2]at hm;simp only[Zm,Ia]at hm;exact Yq hm.2.1.symm h5
    ·exact⟨arr,by rw[hoth b hb];exact hm⟩⟩
   have hkp:∀ κ,κ≠(k,6)->Iw G w {G with gen:=λκ=>if κ=(k,6)then G.gen κ+1 else G.gen κ} w' κ:=λκ hκ=>⟨rfl,λb hb=>⟨hoth b (λh=>by subst h;exact hκ (hw.inj κ (k,6) b hb o1)),rfl⟩⟩
   have hext:Ext G w {G with gen:=λκ=>if κ=(k,6)then G.gen κ+1 else G.gen κ} w':=by
    refine⟨λ_=>Zn _,himm,kv,hos,by rw[htp],hout,λ_ _=>rfl,λκ=>?_,λκ _ hg=>hkp κ (λh=>?_)⟩
    ·simp only;split <;>omega
    ·subst h;simp at hg
   refine⟨.string ⟨s.data.toList.toArray⟩,{G with gen:=λκ=>if κ=(k,6)then G.gen κ+1 else G.gen κ},rfl,⟨hext,λb _ hn=>⟨hoth b (λh=>hn (k,6) (by rw[h];exact o1)),rfl⟩,λκ b h=>.inl ⟨κ,h⟩⟩,
    ⟨hw.inj,λκ b h=>by rw[hsize];exact hw.lt κ b h,λb hb=>hw.zero b kv⟩,?_,λp hp=>?_,λi hi=>hkp (i,0) ku,λ_ _=>rfl,λκ=>?_⟩
   ·simp only[Q3,D9];exact⟨ku,rfl⟩
   ·simp at hp;subst hp;have rsl':=Rep.mono (λ_=>Zn _) himm _ _ rsl;refine⟨blk,_,ho,by rw[hoth blk (Ne.symm hne)];exact g2,g3,⟨_,_,rfl,r0.persist hext (λκ hκ=>?_),_,[],rfl,?_,rfl⟩,g5⟩
    ·rfl
    ·simp only[Q3,D9]at rsl' ⊢;obtain⟨a',cap',es',sz',e1,e2,e3,e4,e5,e6,e7⟩:=rsl';refine⟨a',cap',es',sz',e1,e2,e3,e4,e5,e6,e7,λhv ad had=>?_⟩;have hes':=Vdb s.data.toList es' e2;have hvc':Va3 es'=es':=Vdc es' (λv hv=>by rw[hes']at hv;simp at hv;obtain⟨b,_,rfl⟩:=hv;rfl);simp only[Value.slice.injEq]at e1;obtain⟨e1,_⟩:=e1;rw[<-e1]at had;simp at had;subst had;exact⟨⟨_,_,hgb⟩,_,_,_,_,hgb,Zn _,by rw[hvc',hes'];simp⟩
   ·simp only[Ju,J4]
    by_cases hk:κ=(k,6)
    ·subst hk;simp[hgen]
    ·have:(κ==(k,6))=false:=by simpa using hk
     simp[this,hk]
def Vmc(c0:SV)(k:I)(g:I)(s:Zc)(h0:0<s.size)(h63:s.size<=9223372036854775807):
  Va1 Ze 38 [.ptr 1000 0] [(1000,.cells 80 [c0,.own (k,6) g 1 (Vab s)])] [((k,6),g)] (.av (.val (.string s))) [(1000,.cells 80 [c0,.av (.sl (Vab s))])] [((k,6),g+1)]:=by
 refine⟨(Vjk c0 k g s h0 h63).1,λG w vs hw hargs hbx hgn=>((Vjk c0 k g s h0 h63).2 G w vs hw hargs hbx hgn).mono ?_⟩;rintro e w' ⟨v,G',q1,q2,q3,q4,q5,q6,q7,q8⟩;refine⟨v,G',q1,q2,q3,q4,λp hp=>?_,q6,q7,q8⟩;simp at hp;subst hp;obtain⟨b2,arr2,e1,e2,e3,e4,e5⟩:=q5 (1000,.cells 80 [c0,.av (.fz 5 (Vab s))]) ku;obtain⟨u0,u1,rfl,f0,f1⟩:=Vjn e4;exact⟨b2,_,e1,e2,e3,⟨_,_,rfl,f0,_,[],rfl,Rep.fz_sl f1,rfl⟩,e5⟩
end
section
open Go Go.Eng
def bldA(t:Zc)(g:I):ABox:=.cells 80 [.son 1000,.own (1300,6) g 1 (Vab t)]
def bldG(g:I):F (Qz×I):=[((1300,6),g)]
def Vbv(s:Zc):(Vab s).length=s.size:=by simp[Vab]
def u8(c:J):UInt8:=c.toNat.toUInt8
def Vnr(t:Zc)(c:J)(hc:0<=c/\c<256):Vab t++[.val (.int .u8 c)]=Vab (t.push (u8 c)):=by
 have e:((u8 c).toNat:J)=c:=by
  unfold u8;have:c.toNat.toUInt8.toNat=c.toNat:=by
   rw[Nat.toUInt8,UInt8.toNat_ofNat'];omega
  omega
 simp only[Vab,Im,Array.toList_push,J3,Qw,List.map_nil,e]
def Vqv(t:Zc)(g g':I)(h:g=g'):∀ p∈[(1000,bldA t g)],∀s∈p.2.svs,Qu [1000] (bldG g') s:=by
 subst h;intro p hp s hs;simp only[Zl,Zs,Yf]at hp;subst hp;simp only[bldA,ABox.svs,Zl,Zs,Yf]at hs;rcases hs with rfl|rfl
 ·simp[Qu,Xq]
 ·simp[Qu,bldG,Qa]
def Ve6(t:Zc)(c:J)(g:I)(hsz:t.size<=1073741825)(hc:0<=c/\c<256):Va1 Ze 75 [.ptr 1000 0,.av (.val (.int .u8 c))] [(1000,bldA t g)] (bldG g) (.av (.val .nilIface)) [(1000,bldA (t.push (u8 c)) (g+1))] (bldG (g+1)):=by
 refine Ff (λ_:Je=>.av (.val .nilIface)) () Tryz.func75 kx ku (by simp[bldG]) (by simp[Qu,Xq]) (Vqv t g g rfl) (by simp[Qu,Xq]) (Vqv _ _ _ rfl) rfl rfl ?_;have hu:D8 1 [(.val (.int .u8 c):AV)]:=by
  intro y hy;simp only[Zl,Zs,Yf]at hy;subst hy;exact⟨rfl,rfl⟩
 have hap:(g:I)=g/\D8 1 [(.val (.int .u8 c):AV)]/\((Vab t:F AV).length+([(.val (.int .u8 c):AV)]:F AV).length)*1<=140737488355328:=⟨rfl,hu,by rw[Vbv];simp;omega⟩
 refine GO (o8 (Vfc (.own (1300,6) g 1 (Vab t)) rfl) Zt<|nq hu<|kp hap<|kw (Vnr t c hc) i7) kx ?_;refine ENb kx ?_ ?_
 ·intro p hp;simp only[Zl,Zs,Yf]at hp;subst hp;kernel_rfl
 ·intro p hp;simp only[bldG,Zl,Zs,Yf]at hp;subst hp;kernel_rfl
end
section
open Go Go.Eng Go.RowKit
def size0{s:Zc}(h:s.size=0):s=⟨#[]⟩:=by
 apply Fg;exact Array.eq_empty_of_size_eq_zero h
def Vpq(b:I)(p:Xx)(w:Xc)(hbk:w.heap[b]? =H (.cells #[p,.slice Zw 0 0] 80 (0,0))):
  Dl Ze 38 #[.pointer (H ⟨b,0,Zw⟩)] w λe w'=>e=.returned (.string ⟨#[]⟩)/\w'.heap=w.heap/\w'.os=w.os/\w'.tape=w.tape/\w'.output=w.output:=by
 have c1:w.drew.cell? ⟨b,1,Zw⟩=H (.slice Zw 0 0):=by
  have:w.drew.heap[b]? =H (.cells #[p,.slice Zw 0 0] 80 (0,0)):=hbk;rw[Y9 this];rfl
 have hSD:(Xm #[33] 132 #[.slice Zw 0 0]).run Ze w.drew=.ok (.pointer Zw) w.drew:=rfl;have hUS:(Yx #[132,3] 9 #[.pointer Zw,.int .i64 0]).run Ze w.drew=.ok (.string ⟨#[]⟩) w.drew:=Qi w.drew _ _ _ Zw;clear hbk
 go_enter Xp,Jf
 go_wp2
 go_region
 all_goals (go_wp2;go_ret;exact⟨rfl,rfl,rfl,rfl,rfl⟩)
def Vqe{G:Gh}{w w':Xc}(hw:Wf G w)(hh:w'.heap=w.heap)(hos:w'.os=w.os)(htp:w'.tape=w.tape)(hout:w'.output=w.output):Jq G w G w'/\Wf G w'/\∀ κ,Iw G w G w' κ:=by
 have hk:∀ κ,Iw G w G w' κ:=λκ=>⟨rfl,λb hb=>⟨by rw[hh],rfl⟩⟩
 refine⟨⟨⟨λ_=>Zn _,Vli (λb _=>by rw[hh]),by rw[hh];exact Zn _,hos,by rw[htp],hout,λ_ _=>rfl,λ_=>Zn _,λκ _ _=>hk κ⟩,λb hb _=>⟨by rw[hh],rfl⟩,λκ b hb=>.inl ⟨κ,hb⟩⟩,⟨hw.inj,λκ b hb=>by rw[hh];exact hw.lt κ b hb,λb hb=>hw.zero b (by rw[hh]at hb;exact hb)⟩,hk⟩
def Vo2(c0:SV):Va1 Ze 38 [.ptr 1000 0] [(1000,.cells 80 [c0,.nil])] [] (jS ⟨#[]⟩) [(1000,.cells 80 [c0,.nil])] []:=by
 refine⟨⟨_,Xp,kx,kx⟩,λG w vs hw hargs hbx _=>?_⟩;obtain⟨u,us',rfl,⟨blk,ho,rfl⟩,hnil⟩:=hargs;simp only[Xs]at hnil;subst hnil;obtain⟨blk',arr,g1,g2,g3,g4,g5⟩:=hbx (1000,.cells 80 [c0,.nil]) ku;simp only at g1;rw[ho]at g1;simp at g1;subst g1;obtain⟨v0,v1,rfl,r0,r1⟩:=Vjn g4;have e1:v1=.slice Zw 0 0:=r1;subst e1;refine(Vpq blk v0 w g2).mono ?_;rintro e w' ⟨rfl,hh,hos,htp,hout⟩;obtain⟨s1,s2,s3⟩:=Vqe hw hh hos htp hout;refine⟨_,G,rfl,s1,s2,⟨rfl,rfl⟩,λp hp=>?_,λi _=>s3 _,λ_ _=>rfl,λκ=>rfl⟩;exact(hbx p hp).persist s1.toExt (s3 _) (λ_ _=>rfl)
def Vpr(b:I)(p:Xx)(ad:Qt Addr)(cap:I)(w:Xc)(hbk:w.heap[b]? =H (.cells #[p,.slice ad 0 cap] 80 (0,0)))(hz:ad=Zw\/∃ a,ad=H a/\(cap≠0\/∃ e,TyB w a.block e)):
  Dl Ze 38 #[.pointer (H ⟨b,0,Zw⟩)] w λe w'=>e=.returned (.string ⟨#[]⟩)/\Below w.heap.size w w':=by
 have c1:w.drew.cell? ⟨b,1,Zw⟩=H (.slice ad 0 cap):=by
  have:w.drew.heap[b]? =H (.cells #[p,.slice ad 0 cap] 80 (0,0)):=hbk;rw[Y9 this];rfl
 obtain⟨q,W,hSD,hB⟩:∃ q W,(Xm #[33] 132 #[.slice ad 0 cap]).run Ze w.drew=.ok (.pointer q) W/\Below w.heap.size w W:=by
  have hd:=Below.drew (Below.refl w.heap.size w);rcases hz with rfl|⟨a,rfl,hz⟩
  ·exact⟨Zw,w.drew,rfl,hd⟩
  ·by_cases hc:cap=0
   ·subst hc;obtain⟨e,arr,m,he⟩:=hz.resolve_left ku;have hsh:w.drew.shape? a.block=H (e,arr.size):=by
     have:w.drew.heap[a.block]? =H (.cells arr e m):=he;simp[Jc,this]
    exact⟨_,_,Lib.run_unsafeSliceData_zero w.drew _ _ _ I4 a 0 _ hsh,hd.alloc (Zn _) _⟩
   ·exact⟨_,_,Qd w.drew _ _ a 0 cap hc,hd⟩
 have c2:W.cell? ⟨b,1,Zw⟩=H (.slice ad 0 cap):=by
  have hlt:b<w.heap.size:=by
   rcases Q7 b w.heap.size with h|h
   ·exact h
   ·rw[Array.getElem?_eq_none h]at hbk;cases hbk
  have:=hB.block b hlt;rw[hbk]at this;rw[Y9 this];rfl
 have hUS:(Yx #[132,3] 9 #[.pointer q,.int .i64 0]).run Ze W=.ok (.string ⟨#[]⟩) W:=Qi W _ _ _ q;clear hbk hz
 go_enter Xp,Jf
 go_wp2
 go_region
 all_goals (go_wp2;go_ret;exact⟨rfl,hB⟩)
def StringE_to(c0:SV)(k g:I):Va1 Ze 38 [.ptr 1000 0] [(1000,.cells 80 [c0,.own (k,6) g 1 (Vab ⟨#[]⟩)])] [((k,6),g)] (jS ⟨#[]⟩) [(1000,.cells 80 [c0,.own (k,6) g 1 (Vab ⟨#[]⟩)])] [((k,6),g)]:=by
 refine⟨⟨_,Xp,kx,kx⟩,λG w vs hw hargs hbx hgn=>?_⟩;obtain⟨u,us',rfl,⟨blk,ho,rfl⟩,hnil⟩:=hargs;simp only[Xs]at hnil;subst hnil;obtain⟨blk',arr,g1,g2,g3,g4,g5⟩:=hbx (1000,.cells 80 [c0,.own (k,6) g 1 (Vab ⟨#[]⟩)]) ku;simp only at g1;rw[ho]at g1;simp at g1;subst g1;have hgen:G.gen (k,6)=g:=hgn ((k,6),g) ku;obtain⟨v0,v1,rfl,r0,r1⟩:=Vjn g4;obtain⟨_,_,a,cap,es,rfl,q2,q3,q4,qn,qsp,q5,q6⟩:=r1;have hz:a=Zw\/∃ ad,a=H ad/\(cap≠0\/∃ e,TyB w ad.block e):=by
  rcases q6 hgen with⟨h1,h2|⟨ad,e,h2,_,h3⟩⟩|⟨gb,off,cur,e,rfl,o1,o2,_⟩
  ·exact .inl h2
  ·exact .inr ⟨ad,h2,.inr ⟨e,h3⟩⟩
  ·exact .inr ⟨_,rfl,.inr ⟨e,cur,(0,0),o2⟩⟩
 refine(Vpr blk v0 a cap w g2 hz).mono ?_;rintro e w' ⟨rfl,hb⟩;obtain⟨s1,s2,s3⟩:=Vc9 hw hb;refine⟨_,G,rfl,s1,s2,⟨rfl,rfl⟩,λp hp=>?_,λi _=>s3 _,λ_ _=>rfl,λκ=>?_⟩
 ·exact(hbx p hp).persist s1.toExt (s3 _) (λ_ _=>rfl)
 ·simp only[Ju,J4]
  by_cases hk:κ=(k,6)
  ·subst hk;simp[hgen]
  ·have:(κ==(k,6))=false:=by simpa using hk
   simp[this]
def StringZ_to (c0:SV) (s:Zc) (h0:0<s.size) (h63:s.size<=9223372036854775807):
    Va1 Ze 38 [.ptr 1000 0] [(1000,.cells 80 [c0,.av (.fz 5 (Vab s))])] [] (.av (.val (.string s))) [(1000,.cells 80 [c0,.av (.fz 5 (Vab s))])] []:=by
  refine⟨⟨_,Xp,kx,kx⟩,λG w vs hw hargs hbx hgn=>?_⟩;obtain⟨u,us',rfl,⟨blk,ho,rfl⟩,hnil⟩:=hargs;simp only[Xs]at hnil;subst hnil;obtain⟨blk',arr,g1,g2,g3,g4,g5⟩:=hbx (1000,.cells 80 [c0,.av (.fz 5 (Vab s))]) ku;simp only at g1;rw[ho]at g1;simp at g1;subst g1;obtain⟨v0,v1,rfl,r0,r1⟩:=Vjn g4;have r1':=r1;simp only[Q3,D9]at r1;obtain⟨a,cap,es,sz,rfl,q2,q3,q4,q5,q6,q7,q8⟩:=r1;have hlen:(Vab s).length=s.size:=by simp[Vab]
  have hes:=Vdb s.data.toList es q2;have hvc:Va3 es=es:=Vdc es (λv hv=>by rw[hes]at hv;simp at hv;obtain⟨b,_,rfl⟩:=hv;rfl);have hll:s.data.toList.length=s.size:=ku;have hl0:s.data.toList≠[]:=by intro h;have h1:=Jb Ih h;rw[hll]at h1;simp only[Ib]at h1;exact Yq h1 (Nat.ne_of_gt h0)
  have hel:es.length=s.size:=by rw[hes];simp
  have hne0:Va3 es≠[]:=by intro h;rw[hvc]at h;rw[h]at hel;simp at hel;omega
  rcases q7 with h|⟨gb,off,h1,h2,h3⟩
  · exact Yq h hne0
  subst h1;obtain⟨⟨cur,m,hg⟩,arr',e',lo,hi,hg',hlo,hhi⟩:=q8 hne0 _ rfl;rw[hg]at hg';simp at hg';obtain⟨rfl,rfl,rfl⟩:=hg';rw[hvc,hel]at hhi;have hcs:off+s.size<=cur.size:=by
    obtain⟨x,hx0⟩:∃ x,es[s.size-1]? =H x:=⟨_,Yi kv⟩
    have hx:=(h3 (s.size-1) x (by rw[hvc];exact hx0)).1;rw[Y9 hg]at hx;have:=(Xg.1 hx).1;omega
  refine(Vju blk gb off (Vab s).length cap v0 cur s.data.toList w hl0 (by rw[hlen,hll]) (by rw[hll, <-hlen];exact q5) (by rw[hll];exact hcs) (by rw[hll];exact h63) g2 hg (λj x hx=>?_)).mono ?_
  · have:=(h3 j (.int .u8 x.toNat) (by rw[hvc,hes];simp[hx])).1;simpa using this
  · rintro e w' ⟨rfl,hh,hos,htp,hout⟩;have hh':w'.heap=w.heap:=by
      rw[hh];unfold Jd;rw[Z3 (by rw[hll];omega)];apply Array.ext_getElem?;intro i;simp only[Yy]
      split
      · next hi' => subst hi';rw[hg];simp only[Qb,Zm]
                    have hlh:(lo==hi)=false:=by simp;omega
                    rw[hlh,hll];simp only[I9,Ja];rw[J1 hlo,Nat.max_eq_left hhi]
      · rfl
    obtain⟨s1,s2,s3⟩:=Vqe hw hh' hos htp hout;refine⟨.string ⟨s.data.toList.toArray⟩,G,rfl,s1,s2,?_,λp hp=>?_,λi hi=>s3 _,λ_ _=>rfl,λκ=>rfl⟩
    · simp only[Q3,D9];exact⟨ku,rfl⟩
    · exact(hbx p hp).persist s1.toExt (s3 _) (λ_ _=>rfl)
end
section
open Go Go.Eng
def vldR(r:J):Bool:=Zp (Zp (Zf ((0:J)<=r)) (Zf ((r:J)<55296)) V) Zi (Zp (Zp (Zf ((57343:J)<r)) (Zf ((r:J)<=1114111)) V) Zi V)
def vldR_to(r:J):Va1 Ze 178 [(.av (.val (.int .i32 r)))] [] [] (jB (vldR r)) [] []:=by
 refine D3 (λr:Yr=>(jB r)) (vldR r) Tryz.func178 kx ?_;refine UF (vldR.eq_1 ..) ?_;refine GO (j8 (Zf ((0:J)<=r)) j6 z m5) kx ?_;refine CS (λh1=>?_) (λh1=>?_)
 ·obtain⟨h1a,h1o⟩:=Va9 h1;have h1ap:=Zr h1a;have h1op:=Zr h1o;refine GO (kb h1 m5) kx ?_;exact EN kx
 ·refine GO (kb h1<|t7 (Zf ((57343:J)<r)) j6 z m5) kx ?_;refine CS (λh2=>?_) (λh2=>?_)
  ·obtain⟨h2a,h2o⟩:=Va9 h2;have h2ap:=Zr h2a;have h2op:=Zr h2o;refine GO (kb h2 m5) kx ?_;exact EN kx
  ·refine GO (kb h2 m5) kx ?_;exact EN kx
def suaB(n:J):Bool:=Zf ((n:J)>8)
def suaB_to(n:J):Va1 Ze 233 [(jI n)] [] [] (jB (suaB n)) [] []:=by
 refine D3 (λr:Yr=>(jB r)) (suaB n) Tryz.func233 kx ?_;refine UF (suaB.eq_1 ..) ?_;refine GO i7 kx ?_;exact EN kx
end
end Go.Proofs.YthbpjmogdonlkaaGreatDoor
namespace Go.Eng
open Go.Lib
section
variable {P:Ye}
def Vdg{o:Yz}{S:St}{t:Db}{x:Qp}{s:Zc}{id:I}(ho:o.op=.range t x)(ht:P.underlying t=H .string)(hx:S.ev x=.av (.val (.string s)))(hid:id<1000)(hn:S.names id=V):
  Dj P o S ⟨Y6,.ptr id 0,S.addBox id (.it s 0)⟩:=by
 intro _ G w a hrel;have hv:=hrel.ev x;rw[hx]at hv;have hu:a.eval x=.string s:=hv.1;obtain⟨s1,s2,s3⟩:=Vee hrel.wf (.stringIter s 0) id;have hrb:=hrel.bind hn (.stringIter s 0);refine⟨.value (.pointer (H ⟨w.heap.size,0,Zw⟩)),.pointer (H ⟨w.heap.size,0,Zw⟩),_,_,?_,.inl rfl,s1,⟨hrb.wf,hrb.size,hrb.fr,λp hp=>?_,hrb.gn,hrb.defers⟩,⟨w.heap.size,by simp[Dw],rfl⟩,λi hi=>?_⟩
 ·have e:=run_range_string (P:=P) w t s ht;simp only[execOp,ho,hu,Q5,e];rfl
 ·simp only[St.addBox,Zl]at hp;rcases hp with rfl|hp
  ·exact⟨w.heap.size,ku,by simp[Dw],Vax w _,hrel.wf.zero _ (Zn _)⟩
  ·exact hrb.bx p hp
 ·simp only[Dw];rw[Z3 (by intro h;simp only[Zy]at h;omega)]
def step_setIt{G:Gh}{w:Xc}(hw:Wf G w){id:I}{blk:I}{s:Zc}{pos:I}(ho:G.ow (id,0)=H blk)(hh:w.heap[blk]? =H (.stringIter s pos))(hU:G.U blk=0)(pos':I):
  Jq G w G (w.iterAt blk s pos')/\Wf G (w.iterAt blk s pos')/\∀ κ',κ'≠(id,0)->Iw G w G (w.iterAt blk s pos') κ':=by
 have hoth:∀ k,k≠blk->(w.iterAt blk s pos').heap[k]? =w.heap[k]? :=λk hk=>iterAt_other w blk k s pos' hk
 have hsz:(w.iterAt blk s pos').heap.size=w.heap.size:=iterAt_size w blk s pos';have hkp:∀ κ',κ'≠(id,0)->Iw G w G (w.iterAt blk s pos') κ':=λκ' hk'=>⟨rfl,λb hb=>⟨hoth b (λhe=>by subst he;exact hk' (hw.inj κ' (id,0) b hb ho)),rfl⟩⟩
 refine⟨⟨⟨λb=>Zn _,Vli (λb hb=>hoth b (λhe=>by subst he;omega)),by rw[hsz];exact Zn _,rfl,rfl,rfl,λ_ _=>rfl,λ_=>Zn _,λκ h0 _=>hkp κ (by intro e;rw[e]at h0;simp at h0)⟩,λb hb hn=>⟨hoth b (λhe=>hn _ (he ▸ ho)),rfl⟩,λκ b h=>.inl ⟨κ,h⟩⟩,⟨hw.inj,λκ b h=>?_,λb hb=>?_⟩,hkp⟩
 ·rw[hsz];exact hw.lt κ b h
 ·exact hw.zero b (by rw[hsz]at hb;exact hb)
def Veg{o:Yz}{S:St}{x:Qp}{b:I}{s:Zc}{pos:I}(ho:o.op=.next x Zi)(hx:S.ev x=.ptr b 0)(hb:S.bx.lookup b=H (.it s pos))(hp:pos<s.size):
  Dj P o S ⟨Y6,.av (.tup [.val (.bool Zi),.val (.int .i64 pos),.val (.int .i32 (Zo s pos).1)]),S.setBox b (.it s (pos+(Zo s pos).2))⟩:=by
 intro _ G w a hr;have h2:=hr.ev x;rw[hx]at h2;obtain⟨blk,h3,h4⟩:=h2;obtain⟨blk',g0,g1,g2,g3⟩:=hr.bx _ (Vag hb);simp only at g1;rw[h3]at g1;simp at g1;subst g1;obtain⟨s1,s2,s3⟩:=step_setIt hr.wf h3 g2 g3 (pos+(Zo s pos).2);have hper:∀ s' u,Q3 G w s' u->Q3 G (w.iterAt blk s (pos+(Zo s pos).2)) s' u:=λs' u hs=>hs.persist s1.toExt (λ_ _=>rfl)
 refine⟨.value (.tuple #[.bool Zi,.int .i64 pos,.int .i32 (Zo s pos).1]),_,_,G,?_,.inl rfl,s1,⟨s2,by simpa[Iq]using hr.size,λt s ht=>hper _ _ (hr.fr t s ht),λp hp'=>?_,hr.gn,hr.defers⟩,?_,λ_ _=>rfl⟩
 ·have:=run_next_any_at (P:=P) w blk s pos o.type g2 hp;simp only[execOp,ho,h4,Q5,this];rfl
 ·simp only[Iq,Yv]at hp';obtain⟨q,hq,rfl⟩:=hp'
  split
  ·rename_i hqb;exact⟨blk,by rw[iterAt_size];exact g0,by rw[hqb];exact h3,iterAt_heap w blk s pos _ g2,g3⟩
  ·rename_i hqb;exact(hr.bx q hq).persist s1.toExt (s3 (q.1,0) (by simpa using hqb)) (λ_ _=>rfl)
 ·exact⟨_,rfl,⟨_,_,rfl,⟨rfl,rfl⟩,_,_,rfl,⟨rfl,rfl⟩,_,_,rfl,⟨rfl,rfl⟩,rfl⟩⟩
def Vce{o:Yz}{S:St}{x:Qp}{b:I}{s:Zc}{pos:I}(ho:o.op=.next x Zi)(hx:S.ev x=.ptr b 0)(hb:S.bx.lookup b=H (.it s pos))(hp:¬ pos<s.size):
  Dj P o S ⟨Y6,.av (.tup [.val (.bool V)]),S⟩:=by
 intro _ G w a hr;have h2:=hr.ev x;rw[hx]at h2;obtain⟨blk,h3,h4⟩:=h2;obtain⟨blk',g0,g1,g2,g3⟩:=hr.bx _ (Vag hb);simp only at g1;rw[h3]at g1;simp at g1;subst g1;refine⟨.value (.tuple #[.bool V]),_,w,G,?_,.inl rfl,Q1 G w,hr,⟨_,rfl,⟨_,_,rfl,⟨rfl,rfl⟩,rfl⟩⟩,λ_ _=>rfl⟩;have:=run_next_end_at (P:=P) w blk s pos o.type g2 hp;simp only[execOp,ho,h4,Q5,this];rfl
end
end Go.Eng
namespace Go.Proofs.YthbpjmogdonlkaaGreatDoor
section
open Go Go.Eng
def A7.byt{s:Zc}(h:A7 s)(j:I):((Yw s j:I):J)<128:=by
 show(((s.data.getD j 0).toNat:I):J)<128;rw[Zg];cases e:s.data[j]? with
 |none=>simp
 |some b=>
  have:=h j b (by rw[<-e];simp);simp only[Y7];omega
def jR(c:J):SV:=.av (.val (.int .i32 c))
def enc_last(c:J)(h:128<=c):2<=(Zv c).size/\(Zv c).size<=4/\128<=Yw (Zv c) ((Zv c).size-1):=by
 have hk:∀ k:I,(Yl (128+k%64)).toNat=128+k%64:=λk=>by
  have:(128+k%64)<256:=kv;simp[Jr this]
 obtain⟨n,hn,he⟩:∃ n:I,128<=n/\Zv c=(if n<0x80 then⟨#[Yl n]⟩
 else if n<0x800 then⟨#[Yl (0xC0+n / 64),Yl (0x80+n%64)]⟩
 else if n<0x10000 then⟨#[Yl (0xE0+n / 4096),Yl (0x80+n / 64%64),Yl (0x80+n%64)]⟩
 else⟨#[Yl (0xF0+n / 262144),Yl (0x80+n / 4096%64),Yl (0x80+n / 64%64),Yl (0x80+n%64)]⟩):=by
  refine⟨if Utf8.valid c then c.toNat else Da,?_,rfl⟩
  split
  ·omega
  ·decide
 rw[he,Z3 kv]
 split
 ·refine⟨Z4 rfl,Z4 rfl,?_⟩
  show 128<=(Yl (0x80+n%64)).toNat
  rw[hk];omega
 ·split
  ·refine⟨Z4 rfl,Z4 rfl,?_⟩
   show 128<=(Yl (0x80+n%64)).toNat
   rw[hk];omega
  ·refine⟨Z4 rfl,Z4 rfl,?_⟩
   show 128<=(Yl (0x80+n%64)).toNat
   rw[hk];omega
def a7_byt{s:Zc}(h:A7 s)(j:I):Yw s j<128:=by
 have:=A7.byt h j;omega
def idx_none:∀(l:F Ql)(b:Ql),(∀x∈l,x≠b)->Xw l b= -1
 |[],b,_=>rfl
 |x::l,b,h=>by
  have h1:(x==b)=false:=by simpa using h x ku
  have h2:=idx_none l b (λy hy=>h y (by simp[hy]));simp only[Xw,h2];have h3:¬ x=b:=h x ku;simp[h3]
def A7.mem{s:Zc}(h:A7 s){b:Ql}(hb:b∈s.data.toList):b.toNat<128:=by
 obtain⟨n,hn,e⟩:=List.getElem_of_mem hb;exact h n b (by rw[Yi hn,e])
def idxB_no{s:Zc}(h:A7 s)(c:J)(h1:128<=c)(h2:c<256):idxB s c= -1:=by
 unfold idxB;refine idx_none _ _ (λx hx e=>?_);have:=h.mem hx;subst e;rw[show(c.toNat.toUInt8).toNat=c.toNat by(show c.toNat%256=c.toNat;omega)]at this;omega
noncomputable def irO(r k:I):Oper:=regO r Xh k
def irS(p:Zc)(c:J)(v:I)(l:F (I×SV)):St:=sx 187 ([(0,jS p),(1,jR c),(175,.ptr 175 0)]++l) [(175,.it p v)] []
def ir0(p:Zc)(c:J):W Ze (.region 37 (Vaa 37 Xh) V) (λe S1=>e=.normal/\Xu S1 (irS p c 0 [])) (sx 187 [(0,jS p),(1,jR c)] [] []):=by
 refine Vam ?_;rw[show(Vaa 37 Xh).toList=[irO 37 0,irO 37 1] by kernel_rfl];refine Vas (jS p) 174 kx kx ?_;refine Vbs (.ptr 175 0) 175 kx (Vdg (t:=9) (x:=.tmp 174) (s:=p) (id:=175) kx kx kx gj kx) ?_;exact Vbl rfl ⟨rfl,WK kx⟩
def dec_a{s:Zc}{v:I}(h:v<s.size)(ha:Yw s v<128):Zo s v=(Yw s v,1):=by
 have e:(s.get! v).toNat=Yw s v:=rfl;have hd:Zf ((s.get! v).toNat<0x80)=true:=Z5 (by rw[e];exact ha);simp only[Zo,Nat.add_zero,e];rw[Yu ha]
def irN(p:Zc)(c:J)(v:I):St:=sx 187 [(0,jS p),(1,jR c),(175,.ptr 175 0),(176,.av (.tup [vB Zi,vI ((v:I):J),.val (.int .i32 ((Yw p v:I):J))])),(177,jB Zi)] [(175,.it p (v+1))] []
def ir1(p:Zc)(c:J)(v:I)(h:v<p.size)(ha:A7 p):W Ze (.region 38 (Vaa 38 Xh) V) (λe S1=>e=.normal/\Xu S1 (irN p c v)) (irS p c v []):=by
 refine Vam ?_;rw[show(Vaa 38 Xh).toList=[irO 38 0,irO 38 1] by kernel_rfl];have hs:=Veg (P:=Ze) (o:=irO 38 0) (S:=irS p c v []) (x:=.tmp 175) (b:=175) (s:=p) (pos:=v) kx kx kx h;rw[dec_a h (a7_byt ha v)]at hs;refine Vbs (.av (.tup [vB Zi,vI ((v:I):J),.val (.int .i32 ((Yw p v:I):J))])) 176 kx hs ?_;refine Vas (jB Zi) 177 kx kx ?_;exact Vbl rfl ⟨rfl,WK kx⟩
def ir1e(p:Zc)(c:J):W Ze (.region 38 (Vaa 38 Xh) V) (λe S1=>e=.normal/\Xu S1 (irS p c p.size [(177,jB V)])) (irS p c p.size []):=by
 refine Vam ?_;rw[show(Vaa 38 Xh).toList=[irO 38 0,irO 38 1] by kernel_rfl];refine Vbs (.av (.tup [.val (.bool V)])) 176 kx (Vce (P:=Ze) (o:=irO 38 0) (S:=irS p c p.size []) (x:=.tmp 175) (b:=175) (s:=p) (pos:=p.size) kx kx kx (Qv _)) ?_;refine Vas (jB V) 177 kx kx ?_;exact Vbl rfl ⟨rfl,WK kx⟩
def irn_to(p:Zc)(c:J)(hp:p.size<=1073741824)(ha:A7 p)(h1:128<=c):Va1 Ze 128 [jS p,jR c] [] [] (jI (-1)) [] []:=by
 have d0:Zf ((0:J)<=c)=true:=Z5 kv;have d1:Zf (c<128)=false:=Yj kv
 by_cases hc:c=65533
 ·have e1:(c==65533)=true:=by rw[hc];rfl
  refine bG Q4 ?_;refine gO (i8 d0<|m0 d0<|m0 d0<|m0 d1<|w7 e1<|kq 37 z) ?_;refine Jo (irS p c 0 []) z kx ?_ kx ?_
  ·refine Vaj (S':=sx 187 [(0,jS p),(1,jR c)] [] []) (WK kx) ?_;exact Val (c':=.region 37 (Vaa 37 Xh) V) kx (ir0 p c)
  refine LP (n:=p.size+1) (λN M S=>∃(v:I),v<=p.size/\p.size-v<N/\M=()/\S=irS p c v []) kx ⟨0,kv,kv,rfl,rfl⟩ (WK kx) ?_;rintro n0' M S ⟨v,hv,hF0,rfl,rfl⟩;obtain⟨n0',rfl⟩:∃ k,n0'=k+1:=⟨n0'-1,kv⟩
  refine gO (kq 38 z) ?_
  by_cases hlt:v<p.size
  ·have e2:(((Yw p v:I):J)==65533)=false:=Q9 (by have:=a7_byt ha v;omega);refine Jo (irN p c v) (kb (b:=Zi) (d:=Zi) rfl<|zq e2 z) kx ?_ kx ?_
   ·refine Vaj (S':=irS p c v []) (WK kx) ?_;exact Val (c':=.region 38 (Vaa 38 Xh) V) kx (ir1 p c v hlt ha)
   exact AG (m:=n0') ⟨v+1,kv,kv,rfl,rfl⟩ (WK kx) kx (Zh _)
  ·obtain rfl:v=p.size:=kv;refine Jo (irS p c p.size [(177,jB V)]) (kb (b:=V) (d:=V) rfl z) kx ?_ kx ?_
   ·refine Vaj (S':=irS p c p.size []) (WK kx) ?_;exact Val (c':=.region 38 (Vaa 38 Xh) V) kx (ir1e p c)
   refine Ir m5 kx ?_;exact eN
 ·have e1:(c==65533)=false:=Q9 hc;have hv:=vldR_to c;cases hvl:vldR c with
  |false=>
   rw[hvl]at hv;refine bG Q4 ?_;refine gO (i8 d0<|m0 d0<|m0 d0<|m0 d1<|w7 e1<|n7 hv<|z6 (b:= !V) (d:=Zi) rfl m5) ?_;exact eN
  | true=>
   rw[hvl]at hv;obtain⟨q1,q2,q3⟩:=enc_last c h1;have w1:=wrE ((((Zv c).size:I):J)-1) (((Zv c).size-1:I):J) kv;refine bG Q4 ?_;refine gO (i8 d0<|m0 d0<|m0 d0<|m0 d1<|w7 e1<|n7 hv<|z6 (b:= !Zi) (d:=V) rfl<|tn 5<|kn w1 i7) ?_;refine uN (sx 187 [(0,jS p),(1,jR c),(7,jS (Zv c)),(8,jI (((Zv c).size-1:I):J)),(9,jI (((Zv c).size-1:I):J)),(10,jI 0)] [] []) 1 ?_
   by_cases hlt:(Zv c).size-1<p.size
   ·have d2:Zf ((((Zv c).size-1:I):J)<((Za p:I):J))=true:=Z5 kv;have i1:0<=(((Zv c).size-1:I):J)/\(((Zv c).size-1:I):J)<((Za p:I):J):=⟨kv,kv⟩
    have hbp:=a7_byt ha ((Zv c).size-1);have w2:=wrE ((((Zv c).size-1:I):J)+1) (((Zv c).size:I):J) kv;have i2:0<=(((Zv c).size-1:I):J)/\(((Zv c).size-1:I):J)<(((Zv c).size:I):J):=⟨kv,kv⟩
    have e3:(((Yw p ((Zv c).size-1):I):J) !=((Yw (Zv c) ((Zv c).size-1):I):J))=true:=by rw[I1];omega
    have sl:0<=(((Zv c).size:I):J)/\(((Zv c).size:I):J)<=((Za p:I):J)/\((Za p:I):J)<=((Za p:I):J):=⟨kv,kv,D2 _⟩
    have hx:=Vj9 (Zd p (Zv c).size (Za p)) ((Yw (Zv c) ((Zv c).size-1):I):J);rw[idxB_no (ha.ext _ _) _ kv (by have:=Vcm (Zv c) ((Zv c).size-1);omega)]at hx;refine gO (i8 d2 z) ?_;refine D4 (p7 i1<|p7 i2 m5) kx kx kx ?_;refine gO (kb e3 z) ?_;refine D4 (p8 w2<|kp sl<|p7 i2<|kc hx i6) kx kx kx ?_;refine gO (kb (b:=Zi) (d:=Zi) rfl m5) ?_;refine uO z ?_;exact eN
   ·have d2:Zf ((((Zv c).size-1:I):J)<((Za p:I):J))=false:=Yj kv;refine gO (i8 d2 z) ?_;refine UO m5 kx ?_;exact eN
def dec_n{s:Zc}{v:I}(h:v<s.size)(hb:128<=Yw s v):128<=(Zo s v).1/\1<=(Zo s v).2/\v+(Zo s v).2<=s.size/\∀ k,k<(Zo s v).2->128<=Yw s (v+k):=by
 have hc:∀ k,(Zf (v+k<s.size)&&(s.get! (v+k)).toNat / 64==2)=Zi->v+k<s.size/\128<=Yw s (v+k):=by
  intro k hk;simp only[Zk,Zu,I2]at hk;have e:(s.get! (v+k)).toNat=Yw s (v+k):=rfl;rw[e]at hk;omega
 have one:128<=(65533:I)/\1<=1/\v+1<=s.size/\∀ k,k<1->128<=Yw s (v+k):=by
  refine⟨kv,kv,kv,λk hk=>?_⟩;obtain rfl:k=0:=kv;exact hb
 have e0:(s.get! (v+0)).toNat=Yw s v:=rfl;unfold Zo;simp only[e0];rw[Z3 kv]
 split
 ·rename_i h1;simp only[Zk]at h1;obtain⟨q1,q2⟩:=hc 1 (by simpa using h1.2)
  split
  ·rename_i h2;refine⟨h2,Z4 rfl,by first|omega|(simp only;omega),λk hk=>?_⟩;rcases(show k=0\/k=1 by simp at hk;omega)with rfl|rfl
   ·exact hb
   ·exact q2
  ·exact one
 ·split
  ·rename_i h1;simp only[Zk]at h1;obtain⟨q1,q2⟩:=hc 1 (by simpa using h1.1.2);obtain⟨q3,q4⟩:=hc 2 (by simpa using h1.2)
   split
   ·rename_i h2;simp only[Zk,Zu]at h2;refine⟨by have:=h2.1;simp only at this ⊢;omega,Z4 rfl,by first|omega|(simp only;omega),λk hk=>?_⟩;rcases(show k=0\/k=1\/k=2 by simp at hk;omega)with rfl|rfl|rfl
    ·exact hb
    ·exact q2
    ·exact q4
   ·exact one
  ·split
   ·rename_i h1;simp only[Zk]at h1;obtain⟨q1,q2⟩:=hc 1 (by simpa using h1.1.1.2);obtain⟨q3,q4⟩:=hc 2 (by simpa using h1.1.2);obtain⟨q5,q6⟩:=hc 3 (by simpa using h1.2)
    split
    ·rename_i h2;simp only[Zk,Zu]at h2;refine⟨by have:=h2.1;simp only at this ⊢;omega,Z4 rfl,by first|omega|(simp only;omega),λk hk=>?_⟩;rcases(show k=0\/k=1\/k=2\/k=3 by simp at hk;omega)with rfl|rfl|rfl|rfl
     ·exact hb
     ·exact q2
     ·exact q4
     ·exact q6
    ·exact one
   ·exact one
def irA_to(p:Zc)(c:J)(h0:0<=c)(h1:c<128):Va1 Ze 128 [jS p,jR c] [] [] (jI (idxB p c)) [] []:=by
 have d0:Zf ((0:J)<=c)=true:=Z5 kv;have d1:Zf (c<128)=true:=Z5 kv;have hw:IntKind.u8.wrap c=c:=by
  obtain⟨n,rfl⟩:∃ n:I,c=n:=⟨c.toNat,kv⟩
  have:∀ n:I,n<128->IntKind.u8.wrap (n:J)=n:=gj;exact this n kv
 have hx:=Vj9 p (IntKind.u8.wrap c);have h:Va1 Ze 128 [jS p,jR c] [] [] (jI (idxB p (IntKind.u8.wrap c))) [] []:=by
  refine bG Q4 ?_;refine gO (i8 d0<|m0 d0<|m0 d0<|m0 d1<|m8 hx m5) ?_;exact eN
 rwa[hw]at h
def Vn2{s:Zc}{v:I}(h:v<s.size):∃ x,s.data.toList[v]? =H x/\x.toNat=Yw s v:=by
 have hz:v<s.data.size:=h;refine⟨s.data[v],by simp[hz],?_⟩
 show _=(s.data.getD v 0).toNat
 rw[Zg,Yg hz];rfl
def idxB_mem(p:Zc)(x:Ql):(0<=idxB p ((x.toNat:I):J)) ↔ p.data.toList.contains x=true:=by
 have hx:(((x.toNat:I):J).toNat.toUInt8)=x:=by
  rw[Jn];exact UInt8.toNat_inj.1 (by show x.toNat%256=x.toNat;have:=x.toNat_lt;omega)
 have key:∀ l:F Ql,(0<=Xw l x) ↔ l.contains x=true:=by
  intro l
  induction l with
  |nil=>simp[Xw]
  | cons b l ih=>
   have hb:=idxB_lt l x;simp only[Xw,List.contains_cons,Yc]
   by_cases e:b=x
   ·subst e;simp
   ·have e2:¬ (x==b)=true:=by simpa using λq=>e q.symm
    have e3:(b==x)=false:=by simpa using e
    simp only[e3,e2,false_or, <-ih];simp
    split <;>omega
 unfold idxB;rw[hx];exact key _
noncomputable def iaO(r k:I):Oper:=regO r Y1 k
def iaS(s p:Zc)(v:I)(l:F (I×SV)):St:=sx 55 ([(0,jS s),(1,jS p),(45,.ptr 45 0)]++l) [(45,.it s v)] []
def ia17(s p:Zc):W Ze (.region 17 (Vaa 17 Y1) V) (λe S1=>e=.normal/\Xu S1 (iaS s p 0 [])) (sx 55 [(0,jS s),(1,jS p)] [] []):=by
 refine Vam ?_;rw[show(Vaa 17 Y1).toList=[iaO 17 0,iaO 17 1] by kernel_rfl];refine Vas (jS s) 44 kx kx ?_;refine Vbs (.ptr 45 0) 45 kx (Vdg (t:=9) (x:=.tmp 44) (s:=s) (id:=45) kx kx kx gj kx) ?_;exact Vbl rfl ⟨rfl,WK kx⟩
def iaN(s p:Zc)(v:I):St:=sx 55 [(0,jS s),(1,jS p),(45,.ptr 45 0),(46,.av (.tup [vB Zi,vI ((v:I):J),.val (.int .i32 (((Zo s v).1:I):J))])),(47,jB Zi)] [(45,.it s (v+(Zo s v).2))] []
def ia18(s p:Zc)(v:I)(h:v<s.size):W Ze (.region 18 (Vaa 18 Y1) V) (λe S1=>e=.normal/\Xu S1 (iaN s p v)) (iaS s p v []):=by
 refine Vam ?_;rw[show(Vaa 18 Y1).toList=[iaO 18 0,iaO 18 1] by kernel_rfl];refine Vbs (.av (.tup [vB Zi,vI ((v:I):J),.val (.int .i32 (((Zo s v).1:I):J))])) 46 kx (Veg (P:=Ze) (o:=iaO 18 0) (S:=iaS s p v []) (x:=.tmp 45) (b:=45) (s:=s) (pos:=v) kx kx kx h) ?_;refine Vas (jB Zi) 47 kx kx ?_;exact Vbl rfl ⟨rfl,WK kx⟩
def ia18e(s p:Zc):W Ze (.region 18 (Vaa 18 Y1) V) (λe S1=>e=.normal/\Xu S1 (iaS s p s.size [(47,jB V)])) (iaS s p s.size []):=by
 refine Vam ?_;rw[show(Vaa 18 Y1).toList=[iaO 18 0,iaO 18 1] by kernel_rfl];refine Vbs (.av (.tup [.val (.bool V)])) 46 kx (Vce (P:=Ze) (o:=iaO 18 0) (S:=iaS s p s.size []) (x:=.tmp 45) (b:=45) (s:=s) (pos:=s.size) kx kx kx (Qv _)) ?_;refine Vas (jB V) 47 kx kx ?_;exact Vbl rfl ⟨rfl,WK kx⟩
def eqs_ne0{s:Zc}(h:0<s.size):eqs s ⟨#[]⟩=false:=by
 cases he:eqs s ⟨#[]⟩with
 |false=>rfl
 |true=>
  unfold eqs at he;have:=Jb Ih (eq_of_beq he);have h2:s.size=0:=by simpa using this
  omega
def Vnc{s p:Zc}(ha:A7 p){v:I}(hn:Dk s.data.toList p.data.toList v):∀ n,v+n<=s.size->(∀k,k<n->128<=Yw s (v+k))->Dk s.data.toList p.data.toList (v+n)
 |0,_,_=>hn
 | n+1,h1,h2=>by
  have ih:=Vnc ha hn n kv (λk hk=>h2 k kv);obtain⟨x,hx,hxb⟩:=Vn2 (s:=s) (v:=v+n) kv;refine ih.succ hx ?_;cases hc:p.data.toList.contains x with
  |false=>rfl
  |true=>
   have:=ha.mem (List.contains_iff_mem.1 hc);have:=h2 n kv;omega
def idxA8_to(s p:Zc)(hs:s.size<=8)(hp:2<=p.size)(hpz:p.size<=1073741824)(ha:A7 p):Va1 Ze 187 [jS s,jS p] [] [] (jI (Lib.indexAny s.data.toList p.data.toList)) [] []:=by
 have k0:=eqs_ne0 (s:=p) kv;have k1:(((Za p:I):J)==1)=false:=Q9 kv;have k2:=suaB_to ((Za s:I):J);rw[show suaB ((Za s:I):J)=V from Yj kv]at k2;refine bG Dp ?_;refine gO (w7 k0<|w7 k1<|j7 k2<|kb (b:=V) (d:=V) rfl<|kq 17 z) ?_;refine Jo (iaS s p 0 []) z kx ?_ kx ?_
 ·refine Vaj (S':=sx 55 [(0,jS s),(1,jS p)] [] []) (WK kx) ?_;exact Val (c':=.region 17 (Vaa 17 Y1) V) kx (ia17 s p)
 refine LP (n:=s.size+1) (λN M S=>∃(v:I),v<=s.size/\Dk s.data.toList p.data.toList v/\s.size-v<N/\M=()/\S=iaS s p v []) kx ⟨0,kv,Lib.NoAny.zero _ _,kv,rfl,rfl⟩ (WK kx) ?_;rintro n0' M S ⟨v,hv,hno,hF0,rfl,rfl⟩;obtain⟨n0',rfl⟩:∃ k,n0'=k+1:=⟨n0'-1,kv⟩
 refine gO (kq 18 z) ?_
 by_cases hlt:v<s.size
 ·obtain⟨x,hx,hxb⟩:=Vn2 (s:=s) (v:=v) hlt
  by_cases hb:Yw s v<128
  ·have hd:=dec_a hlt hb;have e1:(Zo s v).1=Yw s v:=by rw[hd]
   have e2:(Zo s v).2=1:=by rw[hd]
   have hc:=irA_to p (((Zo s v).1:I):J) kv kv;have hm:=idxB_mem p x;rw[hxb, <-e1]at hm;cases hg:p.data.toList.contains x with
   |true=>
    have hge:Zf (idxB p (((Zo s v).1:I):J)>=0)=true:=Z5 (hm.2 hg);rw[Lib.indexAny_hit hno hx hg];refine Jo (iaN s p v) (kb (b:=Zi) (d:=Zi) rfl<|eq hc<|m0 hge j6) kx ?_ kx ?_
    ·refine Vaj (S':=iaS s p v []) (WK kx) ?_;exact Val (c':=.region 18 (Vaa 18 Y1) V) kx (ia18 s p v hlt)
    refine Ir z kx ?_;exact eN
   |false=>
    have hge:Zf (idxB p (((Zo s v).1:I):J)>=0)=false:=Yj (λq=>by rw[hm.1 q]at hg;cases hg);refine Jo (iaN s p v) (kb (b:=Zi) (d:=Zi) rfl<|eq hc<|m0 hge z) kx ?_ kx ?_
    ·refine Vaj (S':=iaS s p v []) (WK kx) ?_;exact Val (c':=.region 18 (Vaa 18 Y1) V) kx (ia18 s p v hlt)
    exact AG (m:=n0') ⟨v+(Zo s v).2,kv,by rw[e2];exact hno.succ hx hg,kv,rfl,rfl⟩ (WK kx) kx (Zh _)
  ·obtain⟨q1,q2,q3,q4⟩:=dec_n hlt kv;have hc:=irn_to p (((Zo s v).1:I):J) hpz ha kv;refine Jo (iaN s p v) (kb (b:=Zi) (d:=Zi) rfl<|eq hc<|m0 (b:=V) (d:=V) rfl z) kx ?_ kx ?_
   ·refine Vaj (S':=iaS s p v []) (WK kx) ?_;exact Val (c':=.region 18 (Vaa 18 Y1) V) kx (ia18 s p v hlt)
   exact AG (m:=n0') ⟨v+(Zo s v).2,q3,Vnc ha hno _ q3 q4,kv,rfl,rfl⟩ (WK kx) kx (Zh _)
 ·obtain rfl:v=s.size:=kv;rw[Lib.indexAny_none (by rw[<-Lib.size_eq];exact hno)];refine Jo (iaS s p s.size [(47,jB V)]) (kb (b:=V) (d:=V) rfl z) kx ?_ kx ?_
  ·refine Vaj (S':=iaS s p s.size []) (WK kx) ?_;exact Val (c':=.region 18 (Vaa 18 Y1) V) kx (ia18e s p)
  refine Ir m5 kx ?_;exact eN
def idxG_to(s p:Zc)(hs:s.size<=1073741824)(hp:p.size<=1073741824)(hp2:2<=p.size)(ha:A7 p):Va1 Ze 187 [jS s,jS p] [] [] (jI (idxA s p)) [] []:=by
 by_cases h8:s.size<=8
 ·have h:=idxA8_to s p h8 hp2 hp ha;unfold idxA;exact h
 ·unfold idxA;refine Vcu ⟨Y1,Dp,kx,kx⟩ (λG w us h=>Vrz h) (λG w=>⟨rfl,rfl⟩) (λw=>?_);refine(Any.strings_IndexAny_long Tryz.lays153 zero256 info256 s p w hp2 kv kv kv ha).mono λe w' ⟨he,hw⟩=>⟨he,?_⟩
  rw[hw];exact((RowKit.Below.refl _ _).alloc (Zn _) _).alloc ku _
def endOfK(P:Ye)(fn:Iy)(X:Cf):Qt SV:=match X with
 |some (_,_,.fin .ret S)=>aRes P fn S Zi
 |some (_,_,.fin .normal S)=>aRes P fn S Zi
 |_=>Zw
def ENbK{α:Type}{P:Ye}{fn:Iy}{enc:α->SV}{M:α}{X:Cf}{bx':F (I×Xa)}{gn':F (Qz×I)}(h:endOfK P fn X=H (enc M))(h3:∀ p∈bx',(stOf X).bx.lookup p.1=H p.2)(h4:∀ p∈gn',(stOf X).gen p.1=p.2):Nx P (KE P fn enc bx' gn') M X:=by
 unfold endOfK at h
 split at h
 ·exact⟨endsK (.inl rfl) h rfl h3 h4⟩
 ·exact⟨endsK (.inr rfl) h rfl h3 h4⟩
 ·simp at h
def KBx:Key:=(1300,6)
def bShr(k:IntKind)(x y:J):Int:=x.fdiv (2 ^ (min y.toNat k.bits))
def pu(t:Zc)(l:F J):ByteArray:=l.foldl (λt e=>t.push (u8 e)) t
def b8(e:J):AV:=.val (.int .u8 e)
def Vpi:∀(l:F J)(t:Zc),(∀e∈l,0<=e/\e<256)->Vab t++l.map b8=Vab (pu t l)
 |[],t,_=>by simp[pu]
 |e::l,t,h=>by
  have h1:=Vnr t e (h e ku);have ih:=Vpi l (t.push (u8 e)) (λx hx=>h x (by simp[hx]))
  show Vab t++([b8 e]++l.map b8)=Vab (pu (t.push (u8 e)) l);rw[<-ih, <-h1,Xf];rfl
def Vmv:∀(l:F J)(t:Zc),(pu t l).size=t.size+l.length
 |[],t=>rfl
 |e::l,t=>by
  show(pu (t.push (u8 e)) l).size=_;rw[Vmv l,Xk,Xi];omega
def rnA(c:J):F Int:=
 Zp (Zf (IntKind.u32.wrap c<=2047)) [bOr .u8 192 (IntKind.u8.wrap (bShr .i32 c 6)),bOr .u8 128 (bAnd .u8 (IntKind.u8.wrap c) 63)]
  (Zp (Zp (Zf (IntKind.u32.wrap c<55296)) Zi (Zp (Zf (57343<IntKind.u32.wrap c)) (Zf (IntKind.u32.wrap c<=65535)) V)) [bOr .u8 224 (IntKind.u8.wrap (bShr .i32 c 12)),bOr .u8 128 (bAnd .u8 (IntKind.u8.wrap (bShr .i32 c 6)) 63),bOr .u8 128 (bAnd .u8 (IntKind.u8.wrap c) 63)]
   (Zp (Zp (Zf (IntKind.u32.wrap c>65535)) (Zf (IntKind.u32.wrap c<=1114111)) V) [bOr .u8 240 (IntKind.u8.wrap (bShr .i32 c 18)),bOr .u8 128 (bAnd .u8 (IntKind.u8.wrap (bShr .i32 c 12)) 63),bOr .u8 128 (bAnd .u8 (IntKind.u8.wrap (bShr .i32 c 6)) 63),bOr .u8 128 (bAnd .u8 (IntKind.u8.wrap c) 63)] [239,191,189]))
def rnB(c:J):F Int:=Zp (Zf (IntKind.u32.wrap c<=127)) [IntKind.u8.wrap c] (rnA c)
def w8(x:J):0<=IntKind.u8.wrap x/\IntKind.u8.wrap x<256:=by
 simp only[Xr,Dv,Dd];simp;omega
def or8(x y:J):0<=bOr .u8 x y/\bOr .u8 x y<256:=w8 _
def rnA_ok(c:J):(∀e∈rnA c,0<=e/\e<256)/\1<=(rnA c).length/\(rnA c).length<=4:=by
 unfold rnA;refine Va5 (λl:F J=>(∀e∈l,0<=e/\e<256)/\1<=l.length/\l.length<=4) (λ_=>⟨?_,ku,ku⟩) (λ_=>Va5 (λl:F J=>(∀e∈l,0<=e/\e<256)/\1<=l.length/\l.length<=4) (λ_=>⟨?_,ku,ku⟩) (λ_=>Va5 (λl:F J=>(∀e∈l,0<=e/\e<256)/\1<=l.length/\l.length<=4) (λ_=>⟨?_,ku,ku⟩) (λ_=>⟨gj,gj,gj⟩)))
 all_goals
  intro e he;simp only[Zl,Zs,Yf]at he
  first
  |(rcases he with rfl|rfl|rfl|rfl <;>exact or8 _ _)
  |(rcases he with rfl|rfl|rfl <;>exact or8 _ _)
  |(rcases he with rfl|rfl <;>exact or8 _ _)
def Vn7(c:J):(∀e∈rnB c,0<=e/\e<256)/\1<=(rnB c).length/\(rnB c).length<=4:=by
 unfold rnB;refine Va5 (λl:F J=>(∀e∈l,0<=e/\e<256)/\1<=l.length/\l.length<=4) (λ_=>⟨?_,ku,ku⟩) (λ_=>rnA_ok c);intro e he;simp only[Zl,Zs,Yf]at he;subst he;exact w8 _
def uni8(l:F J):D8 1 (l.map b8):=by
 intro y hy;obtain⟨x,_,rfl⟩:=Yv.1 hy;exact⟨rfl,rfl⟩
def apP(t:Zc)(g:I)(l:F J):Prop:=(g:I)=g/\D8 1 (l.map b8)/\((Vab t:F AV).length+(l.map b8).length)*1<=140737488355328
def ap8(t:Zc)(g:I)(l:F J)(hsz:t.size<=1073741825)(hl:l.length<=4):apP t g l:=⟨rfl,uni8 l,by rw[Vbv,J6];omega⟩
def apn_to(t:Zc)(c:J)(g:I)(hsz:t.size<=1073741825):Va1 Ze 310 [.own KBx g 1 (Vab t),jR c] [] (bldG g) (.own KBx (g+1) 1 (Vab (pu t (rnA c)))) [] (bldG (g+1)):=by
 have hok:=rnA_ok c;have hu:=uni8 (rnA c);have hap:=ap8 t g (rnA c) hsz hok.2.2;have hb:=Vpi (rnA c) t hok.1;have key:∀ l,rnA c=l->(D8 1 (l.map b8)/\apP t g l/\Vab t++l.map b8=Vab (pu t (rnA c))):=by
  rintro l rfl;exact⟨hu,hap,hb⟩
 refine Ff (λ_:Je=>.own KBx (g+1) 1 (Vab (pu t (rnA c)))) () Tryz.func310 kx ku (by simp[bldG]) (by simp[Qu,Xq,bldG,KBx,jR,Qa]) ku (by simp[Qu,Xq,bldG,KBx,Qa]) ku rfl rfl ?_;have fin:∀ p∈bldG (g+1),p=(KBx,g+1):=λp hp=>by simpa[bldG,KBx]using hp
 have s6:(0:J)<=6:=gj;have s12:(0:J)<=12:=gj;have s18:(0:J)<=18:=gj;cases h1:Zf (IntKind.u32.wrap c<=2047)with
 |true=>
  obtain⟨k1,k2,k3⟩:=key _ (by unfold rnA;rw[h1,Z1]);refine gO (xq h1<|p7 s6<|nq k1<|kp k2<|kw k3 m5) ?_;exact ENbK kx ku (λp hp=>by rw[fin p hp];kernel_rfl)
 | false=>
  cases h2:Zp (Zf (IntKind.u32.wrap c<55296)) Zi (Zp (Zf (57343<IntKind.u32.wrap c)) (Zf (IntKind.u32.wrap c<=65535)) V)with
  | true=>
   obtain⟨k1,k2,k3⟩:=key _ (by unfold rnA;rw[h1,Z2,h2,Z1]);cases h3:Zf (IntKind.u32.wrap c<55296)with
   |true=>
    refine gO (xq h1<|w7 h3<|kb h3<|p7 s12<|qq s6<|tn 7<|kp k1<|kp k2<|kw k3 m5) ?_;exact ENbK kx ku (λp hp=>by rw[fin p hp];kernel_rfl)
   | false=>
    rw[h3,Z2]at h2;cases h4:Zf (57343<IntKind.u32.wrap c)with
    |false=>rw[h4]at h2;cases h2
    |true=>
     rw[h4,Z1]at h2;refine gO (xq h1<|w7 h3<|w7 h4<|m0 h4<|m0 h4<|m0 h2<|p7 s12<|qq s6<|tn 7<|kp k1<|kp k2<|kw k3 m5) ?_;exact ENbK kx ku (λp hp=>by rw[fin p hp];kernel_rfl)
  | false=>
   cases h3:Zf (IntKind.u32.wrap c<55296)with
   |true=>rw[h3]at h2;cases h2
   | false=>
    have h2':=h2;rw[h3,Z2]at h2';cases h5:Zp (Zf (IntKind.u32.wrap c>65535)) (Zf (IntKind.u32.wrap c<=1114111)) V with
    | true=>
     obtain⟨k1,k2,k3⟩:=key _ (by unfold rnA;rw[h1,Z2,h2,Z2,h5,Z1]);cases h6:Zf (IntKind.u32.wrap c>65535)with
     |false=>rw[h6]at h5;cases h5
     |true=>
      rw[h6,Z1]at h5;have h4:Zf (57343<IntKind.u32.wrap c)=true:=Z5 (by have:=Zr h6;omega);rw[h4,Z1]at h2';refine gO (xq h1<|w7 h3<|w7 h4<|m0 h4<|m0 h4<|m0 h2'<|w7 h6<|m0 h6<|m0 h6<|m0 h5<|p7 s18<|qq s12<|z8 s6<|tn 7<|kp k1<|kp k2<|kw k3 m5) ?_;exact ENbK kx ku (λp hp=>by rw[fin p hp];kernel_rfl)
    | false=>
     obtain⟨k1,k2,k3⟩:=key _ (by unfold rnA;rw[h1,Z2,h2,Z2,h5,Z2]);cases h4:Zf (57343<IntKind.u32.wrap c)with
     |true=>
      rw[h4,Z1]at h2';have h6:Zf (IntKind.u32.wrap c>65535)=true:=Z5 (by have:=Zx h2';omega);rw[h6,Z1]at h5;refine gO (xq h1<|w7 h3<|w7 h4<|m0 h4<|m0 h4<|m0 h2'<|w7 h6<|m0 h6<|m0 h6<|m0 h5<|p9 k1<|kp k2<|kw k3 m5) ?_;exact ENbK kx ku (λp hp=>by rw[fin p hp];kernel_rfl)
     |false=>
      have h6:Zf (IntKind.u32.wrap c>65535)=false:=Yj (by have:=Zx h4;omega);refine gO (xq h1<|w7 h3<|w7 h4<|kb h4<|kb h4<|m0 (b:=V) (d:=V) rfl<|w7 h6<|kb h6<|kb h6<|m0 (b:=V) (d:=V) rfl<|p9 k1<|kp k2<|kw k3 m5) ?_;exact ENbK kx ku (λp hp=>by rw[fin p hp];kernel_rfl)
def apr_to(t:Zc)(c:J)(g:I)(hsz:t.size<=1073741825):Va1 Ze 298 [.own KBx g 1 (Vab t),jR c] [] (bldG g) (.own KBx (g+1) 1 (Vab (pu t (rnB c)))) [] (bldG (g+1)):=by
 have fin:∀ p∈bldG (g+1),p=(KBx,g+1):=λp hp=>by simpa[bldG,KBx]using hp
 refine Ff (λ_:Je=>.own KBx (g+1) 1 (Vab (pu t (rnB c)))) () Tryz.func298 kx ku (by simp[bldG]) (by simp[Qu,Xq,bldG,KBx,jR,Qa]) ku (by simp[Qu,Xq,bldG,KBx,Qa]) ku rfl rfl ?_;cases h1:Zf (IntKind.u32.wrap c<=127)with
 |true=>
  have e:rnB c=[IntKind.u8.wrap c]:=by unfold rnB;rw[h1];rfl
  rw[e];have hu:=uni8 [IntKind.u8.wrap c];have hap:=ap8 t g [IntKind.u8.wrap c] hsz ku;have hb:=Vpi [IntKind.u8.wrap c] t (λe he=>by simp at he;subst he;exact w8 c);refine gO (i8 h1<|qq hu<|kp hap<|kw hb m5) ?_;exact ENbK kx ku (λp hp=>by rw[fin p hp];kernel_rfl)
 |false=>
  have e:rnB c=rnA c:=by unfold rnB;rw[h1];rfl
  rw[e];have hc:=apn_to t c g hsz;refine gO (i8 h1<|o8 hc (show g=g/\Y6 from⟨rfl,Zt⟩) m5) ?_;exact ENbK kx ku (λp hp=>by rw[fin p hp];kernel_rfl)
def wrr_to(t:Zc)(c:J)(g:I)(hsz:t.size<=1073741825):Va1 Ze 268 [.ptr 1000 0,jR c] [(1000,bldA t g)] (bldG g) (.av (.tup [vI (((rnB c).length:I):J),.val .nilIface])) [(1000,bldA (pu t (rnB c)) (g+1))] (bldG (g+1)):=by
 refine Ff (λ_:Je=>.av (.tup [vI (((rnB c).length:I):J),.val .nilIface])) () Tryz.func268 kx ku (by simp[bldG]) (by simp[Qu,Xq,jR]) (Vqv t g g rfl) (by simp[Qu,Xq]) (Vqv _ _ _ rfl) rfl rfl ?_;have ha:=apr_to t c g hsz;have hok:=Vn7 c;have hw:Xr .i64 ((((Vab (pu t (rnB c))):F AV).length:J)-(((Vab t):F AV).length:J))=(((rnB c).length:I):J):=wrE _ _ (by rw[Vbv,Vbv,Vmv];omega);refine gO (tn 3<|kg (Vfc (.own KBx g 1 (Vab t)) rfl) Zt<|tn 12<|kg ha (show g=g/\Y6 from⟨rfl,Zt⟩)<|mq hw j6) ?_;refine ENb kx ?_ ?_
 ·intro p hp;simp only[Zl,Zs,Yf]at hp;subst hp;kernel_rfl
 ·intro p hp;simp only[bldG,Zl,Zs,Yf]at hp;subst hp;kernel_rfl
def len_to(t:Zc)(g:I):Va1 Ze 253 [.ptr 1000 0] [(1000,bldA t g)] (bldG g) (jI (((Vab t:F AV).length:I):J)) [(1000,bldA t g)] (bldG g):=by
 refine Ff (λ_:Je=>jI (((Vab t:F AV).length:I):J)) () Tryz.func253 kx ku (by simp[bldG]) (by simp[Qu,Xq]) (Vqv t g g rfl) (by simp[Qu,Xq]) (Vqv _ _ _ rfl) rfl rfl ?_;refine gO lq ?_;refine ENb kx ?_ ?_
 ·intro p hp;simp only[Zl,Zs,Yf]at hp;subst hp;kernel_rfl
 ·intro p hp;simp only[bldG,Zl,Zs,Yf]at hp;subst hp;kernel_rfl
def dec_pos{s:Zc}{v:I}(h:v<s.size):1<=(Zo s v).2/\v+(Zo s v).2<=s.size:=by
 by_cases hb:Yw s v<128
 ·rw[dec_a h hb];exact⟨Zn _,h⟩
 ·obtain⟨_,q2,q3,_⟩:=dec_n h kv;exact⟨q2,q3⟩
def dec_le(s:Zc)(v:I):(Zo s v).1<2097152:=by
 have h0:(s.get! (v+0)).toNat<256:=(s.get! (v+0)).toNat_lt;unfold Zo;simp only
 repeat' split
 all_goals first
  |(show Da<2097152;decide)
  |(simp only;omega)
def fldC(s:Zc)(v:I):Int:=(((Zo s v).1:I):J)
def fldT(gap:Yr)(t:Zc):ByteArray:=Zp gap (Zp (Zf (((Vab t:F AV).length:J)>0)) (t.push (u8 32)) t) t
def fldR(s:Zc)(v:I):Int:=IntKind.i32.wrap (lowC (IntKind.i64.wrap (fldC s v)))
def fldL(s:Zc):I->I->Yr->Zc->Zc
 |0,_,_,t=>t
 |n+1,v,gap,t=>if v<s.size then Zp (spcC (IntKind.i64.wrap (fldC s v))) (fldL s n (v+(Zo s v).2) Zi t) (fldL s n (v+(Zo s v).2) V (pu (fldT gap t) (rnB (fldR s v))))else t
def fldM(s:Zc):ByteArray:=fldL s (s.size+1) 0 V ⟨#[]⟩
def fldT_sz(gap:Yr)(t:Zc):t.size<=(fldT gap t).size/\(fldT gap t).size<=t.size+1:=by
 unfold fldT;cases gap with
 |false=>simp
 |true=>
  rw[Z1];exact Va5 (λr:Zc=>t.size<=r.size/\r.size<=t.size+1) (λ_=>by rw[Xk];omega) (λ_=>by omega)
def fdB(s t:Zc)(v g:I):F (I×Xa):=[(3,.cells 80 [.son 3,.own KBx g 1 (Vab t)]),(8,.it s v)]
def fdS(s t:Zc)(v g:I)(gap:Yr)(l:F (I×SV)):St:=sx 27 ([(3,.ptr 3 0),(4,jB gap),(8,.ptr 8 0)]++l) (fdB s t v g) [(KBx,g)]
def fdN(s t:Zc)(v g:I)(gap:Yr):St:=sx 27 [(3,.ptr 3 0),(4,jB gap),(8,.ptr 8 0),(9,.av (.tup [vB Zi,vI ((v:I):J),.val (.int .i32 (fldC s v))])),(10,jB Zi)] (fdB s t (v+(Zo s v).2) g) [(KBx,g)]
def fd3(s:Zc):W Ze (.region 3 (Vaa 3 Yd) V) (λe S1=>e=.normal/\Xu S1 (sx 27 [(3,.ptr 3 0),(4,jB V),(8,.ptr 8 0)] [(3,.cells 80 [.av (.val (.pointer Zw)),.nil]),(8,.it s 0)] [])) (sx 27 [(0,jS s),(3,.ptr 3 0),(4,jB V)] [(3,.cells 80 [.av (.val (.pointer Zw)),.nil])] []):=by
 refine Vam ?_;rw[show(Vaa 3 Yd).toList=[regO 3 Yd 0,regO 3 Yd 1] by kernel_rfl];refine Vas (jS s) 7 kx kx ?_;refine Vbs (.ptr 8 0) 8 kx (Vdg (t:=9) (x:=.tmp 7) (s:=s) (id:=8) kx kx kx gj kx) ?_;exact Vbl rfl ⟨rfl,WK kx⟩
def fd4(s t:Zc)(v g:I)(gap:Yr)(h:v<s.size):W Ze (.region 4 (Vaa 4 Yd) V) (λe S1=>e=.normal/\Xu S1 (fdN s t v g gap)) (fdS s t v g gap []):=by
 refine Vam ?_;rw[show(Vaa 4 Yd).toList=[regO 4 Yd 0,regO 4 Yd 1] by kernel_rfl];refine Vbs (.av (.tup [vB Zi,vI ((v:I):J),.val (.int .i32 (fldC s v))])) 9 kx (Veg (P:=Ze) (o:=regO 4 Yd 0) (S:=fdS s t v g gap []) (x:=.tmp 8) (b:=8) (s:=s) (pos:=v) kx kx kx h) ?_;refine Vas (jB Zi) 10 kx kx ?_;exact Vbl rfl ⟨rfl,WK kx⟩
def fd4e(s t:Zc)(g:I)(gap:Yr):W Ze (.region 4 (Vaa 4 Yd) V) (λe S1=>e=.normal/\Xu S1 (fdS s t s.size g gap [(10,jB V)])) (fdS s t s.size g gap []):=by
 refine Vam ?_;rw[show(Vaa 4 Yd).toList=[regO 4 Yd 0,regO 4 Yd 1] by kernel_rfl];refine Vbs (.av (.tup [.val (.bool V)])) 9 kx (Vce (P:=Ze) (o:=regO 4 Yd 0) (S:=fdS s t s.size g gap []) (x:=.tmp 8) (b:=8) (s:=s) (pos:=s.size) kx kx kx (Qv _)) ?_;refine Vas (jB V) 10 kx kx ?_;exact Vbl rfl ⟨rfl,WK kx⟩
def b3(t:Zc)(g:I):F (I×Xa):=[(3,.cells 80 [.son 3,.own KBx g 1 (Vab t)])]
def wrr3(t:Zc)(c:J)(g:I)(hsz:t.size<=1073741825):Va1 Ze 268 [.ptr 3 0,jR c] (b3 t g) [(KBx,g)] (.av (.tup [vI (((rnB c).length:I):J),.val .nilIface])) (b3 (pu t (rnB c)) (g+1)) [(KBx,g+1)]:=
 Vcz kx (Vac (Vah (3,0) (1000,0) rfl) (wrr_to t c g hsz))
def wb3(t:Zc)(g:I)(hsz:t.size<=1073741825):Va1 Ze 75 [.ptr 3 0,.av (.val (.int .u8 32))] (b3 t g) [(KBx,g)] (.av (.val .nilIface)) (b3 (t.push (u8 32)) (g+1)) [(KBx,g+1)]:=
 Vcz kx (Vac (Vah (3,0) (1000,0) rfl) (Ve6 t 32 g kv kv))
def len3(t:Zc)(g:I):Va1 Ze 253 [.ptr 3 0] (b3 t g) [(KBx,g)] (jI (((Vab t:F AV).length:I):J)) (b3 t g) [(KBx,g)]:=
 Vcz kx (Vac (Vah (3,0) (1000,0) rfl) (len_to t g))
def str3(t:Zc)(g:I)(h0:0<t.size)(hsz:t.size<=1073741825):Va1 Ze 38 [.ptr 3 0] (b3 t g) [(KBx,g)] (jS t) [(3,.cells 80 [.son 3,.av (.sl (Vab t))])] [(KBx,g+1)]:=
 Vcz kx (Vac (Vah (3,0) (1000,0) rfl) (Vmc (.son 1000) 1300 g t h0 kv))
def strE3(g:I):Va1 Ze 38 [.ptr 3 0] (b3 ⟨#[]⟩ g) [(KBx,g)] (jS ⟨#[]⟩) (b3 ⟨#[]⟩ g) [(KBx,g)]:=
 Vcz kx (Vac (Vah (3,0) (1000,0) rfl) (StringE_to (.son 1000) 1300 g))
def fold_to(s:Zc)(hs:s.size<=100000000):Va1 Ze 224 [jS s] [] [] (jS (fldM s)) [] []:=by
 refine bG Tryz.func224 ?_;refine gO (kq 3 i6) ?_;refine Jo (sx 27 [(3,.ptr 3 0),(4,jB V),(8,.ptr 8 0)] [(3,.cells 80 [.av (.val (.pointer Zw)),.nil]),(8,.it s 0)] []) z kx ?_ kx ?_
 ·refine Vaj (S':=sx 27 [(0,jS s),(3,.ptr 3 0),(4,jB V)] [(3,.cells 80 [.av (.val (.pointer Zw)),.nil])] []) (WK kx) ?_;exact Val (c':=.region 3 (Vaa 3 Yd) V) kx (fd3 s)
 have hz0:(Vab ⟨#[]⟩:F AV)=[]:=rfl;refine RT [(3,0,.son 3),(3,1,.own KBx 0 1 (Vab ⟨#[]⟩))] (ac (show(AV.val (.pointer Zw))=.val (.pointer Zw)from rfl) (ac (show(Vab ⟨#[]⟩:F AV)=[]/\0<6/\(0:I)=0 from⟨hz0,gj,rfl⟩) an)) kx ?_;refine LP (n:=s.size+1) (λN M S=>∃(v g:I)(gap:Yr)(t:Zc),v<=s.size/\t.size<=5*v/\fldL s N v gap t=fldM s/\s.size-v<N/\M=()/\S=fdS s t v g gap []) kx ⟨0,0,V,⟨#[]⟩,kv,Zn _,rfl,kv,rfl,rfl⟩ (WK kx) ?_;rintro n0 M S ⟨v,g,gap,t,hv,hts,hM,hF0,rfl,rfl⟩;obtain⟨n0,rfl⟩:∃ k,n0=k+1:=⟨n0-1,kv⟩
 rw[fldL]at hM;refine gO (kq 4 z) ?_
 by_cases h1:v<s.size
 ·obtain⟨p1,p2⟩:=dec_pos h1;have hle:=dec_le s v;have hcl:fldC s v<2097152:=by unfold fldC;omega
  have hc0:0<=fldC s v:=by unfold fldC;omega
  have hw:Xr .i64 (fldC s v)=fldC s v:=wrE _ _ kv;have hsp:=Vog (Xr .i64 (fldC s v));have hlo:=lowC_to (Xr .i64 (fldC s v)) (by rw[hw];omega) (by rw[hw];omega);rw[Yu h1]at hM;cases hb:spcC (Xr .i64 (fldC s v))with
  |true=>
   rw[hb,Z1]at hM;refine Jo (fdN s t v g gap) (kb (b:=Zi) (d:=Zi) rfl<|cq hsp<|kb hb m5) kx ?_ kx ?_
   ·refine Vaj (S':=fdS s t v g gap []) (WK kx) ?_;exact Val (c':=.region 4 (Vaa 4 Yd) V) kx (fd4 s t v g gap h1)
   exact AG (m:=n0) ⟨v+(Zo s v).2,g,Zi,t,p2,kv,hM,kv,rfl,rfl⟩ (WK kx) kx (Zh _)
  | false=>
   rw[hb,Z2]at hM;have hft:=fldT_sz gap t;have hrn:=Vn7 (fldR s v);have hpz:=Vmv (rnB (fldR s v)) (fldT gap t);cases gap with
   |false=>
    have hwr:=wrr3 t (fldR s v) g kv;rw[show fldT V t=t from rfl]at hpz;refine Jo (fdN s t v g V) (kb (b:=Zi) (d:=Zi) rfl<|cq hsp<|kb hb<|z6 (b:=V) (d:=V) rfl<|kb (b:=V) (d:=V) rfl<|kb (b:=V) (d:=V) rfl<|kb (b:=V) (d:=V) rfl<|m8 hlo<|tn 1<|kg hwr (show g=g/\Y6 from⟨rfl,Zt⟩) z) kx ?_ kx ?_
    ·refine Vaj (S':=fdS s t v g V []) (WK kx) ?_;exact Val (c':=.region 4 (Vaa 4 Yd) V) kx (fd4 s t v g V h1)
    exact AG (m:=n0) ⟨v+(Zo s v).2,g+1,V,pu t (rnB (fldR s v)),p2,kv,hM,kv,rfl,rfl⟩ (WK kx) kx (Zh _)
   | true=>
    have hln:=len3 t g;cases hgt:Zf (((Vab t:F AV).length:J)>0)with
    |false=>
     have e:fldT Zi t=t:=by unfold fldT;rw[Z1,hgt];rfl
     rw[e]at hM hpz;have hwr:=wrr3 t (fldR s v) g kv;refine Jo (fdN s t v g Zi) (kb (b:=Zi) (d:=Zi) rfl<|cq hsp<|kb hb<|z6 (b:=Zi) (d:=Zi) rfl<|kg hln (show g=g/\Y6 from⟨rfl,Zt⟩)<|kb (b:=Zi) (d:=Zi) rfl<|m0 (b:=Zi) (d:=Zi) rfl<|kb hgt<|m8 hlo<|tn 1<|kg hwr (show g=g/\Y6 from⟨rfl,Zt⟩) z) kx ?_ kx ?_
     ·refine Vaj (S':=fdS s t v g Zi []) (WK kx) ?_;exact Val (c':=.region 4 (Vaa 4 Yd) V) kx (fd4 s t v g Zi h1)
     exact AG (m:=n0) ⟨v+(Zo s v).2,g+1,V,pu t (rnB (fldR s v)),p2,kv,hM,kv,rfl,rfl⟩ (WK kx) kx (Zh _)
    |true=>
     have e:fldT Zi t=t.push (u8 32):=by unfold fldT;rw[Z1,hgt];rfl
     rw[e]at hM hpz;rw[Xk]at hpz;have hwb:=wb3 t g kv;have hwr:=wrr3 (t.push (u8 32)) (fldR s v) (g+1) (by rw[Xk];omega);refine Jo (fdN s t v g Zi) (kb (b:=Zi) (d:=Zi) rfl<|cq hsp<|kb hb<|z6 (b:=Zi) (d:=Zi) rfl<|kg hln (show g=g/\Y6 from⟨rfl,Zt⟩)<|kb (b:=Zi) (d:=Zi) rfl<|m0 (b:=Zi) (d:=Zi) rfl<|kb hgt<|kg hwb (show g=g/\Y6 from⟨rfl,Zt⟩)<|m8 hlo<|tn 1<|kg hwr (show g+1=g+1/\Y6 from⟨rfl,Zt⟩) z) kx ?_ kx ?_
     ·refine Vaj (S':=fdS s t v g Zi []) (WK kx) ?_;exact Val (c':=.region 4 (Vaa 4 Yd) V) kx (fd4 s t v g Zi h1)
     exact AG (m:=n0) ⟨v+(Zo s v).2,g+2,V,pu (t.push (u8 32)) (rnB (fldR s v)),p2,kv,hM,kv,rfl,rfl⟩ (WK kx) kx (Zh _)
 ·have hvs:v=s.size:=kv;subst hvs;rw[Z3 h1]at hM;subst hM;refine Jo (fdS s (fldM s) s.size g gap [(10,jB V)]) (kb (b:=V) (d:=V) rfl z) kx ?_ kx ?_
  ·refine Vaj (S':=fdS s (fldM s) s.size g gap []) (WK kx) ?_;exact Val (c':=.region 4 (Vaa 4 Yd) V) kx (fd4e s (fldM s) g gap)
  by_cases h0:0<(fldM s).size
  ·have hst:=str3 (fldM s) g h0 kv;refine Ir (kg hst (show g=g/\Y6 from⟨rfl,Zt⟩) m5) kx ?_;exact eN
  ·have e:=size0 (s:=fldM s) kv;rw[e];have hst:=strE3 g;refine Ir (kg hst (show g=g/\Y6 from⟨rfl,Zt⟩) m5) kx ?_;exact eN
def lbC(c:J):Bool:=letL c||digC c||c==32||c==45||c==95||c==46||c==58
def lbR(s:Zc)(v:I):Int:=IntKind.i64.wrap (fldC s v)
def lblL(s:Zc):I->I->Yr
 |0,_=>Zi
 |n+1,v=>if v<s.size then lbC (lbR s v)&&lblL s n (v+(Zo s v).2)else Zi
def lblM(s:Zc):ByteArray:=if(fldM s).size>60 then⟨#[]⟩else if lblL (fldM s) ((fldM s).size+1) 0 then fldM s else⟨#[]⟩
def lblM_sz(s:Zc):(lblM s).size<=60:=by
 have e0:(⟨#[]⟩:Zc).size=0:=rfl;unfold lblM
 split
 ·rw[e0];omega
 ·split
  ·omega
  ·rw[e0];omega
def lbS(f:Zc)(v:I)(l:F (I×SV)):St:=sx 36 ([(3,jS f),(13,.ptr 13 0)]++l) [(13,.it f v)] []
def lbN(f:Zc)(v:I):St:=sx 36 [(3,jS f),(13,.ptr 13 0),(14,.av (.tup [vB Zi,vI ((v:I):J),.val (.int .i32 (fldC f v))])),(15,jB Zi)] [(13,.it f (v+(Zo f v).2))] []
def lb4(f:Zc):W Ze (.region 4 (Vaa 4 Z8) V) (λe S1=>e=.normal/\Xu S1 (lbS f 0 [])) (sx 36 [(3,jS f)] [] []):=by
 refine Vam ?_;rw[show(Vaa 4 Z8).toList=[regO 4 Z8 0,regO 4 Z8 1] by kernel_rfl];refine Vas (jS f) 12 kx kx ?_;refine Vbs (.ptr 13 0) 13 kx (Vdg (t:=9) (x:=.tmp 12) (s:=f) (id:=13) kx kx kx gj kx) ?_;exact Vbl rfl ⟨rfl,WK kx⟩
def lb5(f:Zc)(v:I)(h:v<f.size):W Ze (.region 5 (Vaa 5 Z8) V) (λe S1=>e=.normal/\Xu S1 (lbN f v)) (lbS f v []):=by
 refine Vam ?_;rw[show(Vaa 5 Z8).toList=[regO 5 Z8 0,regO 5 Z8 1] by kernel_rfl];refine Vbs (.av (.tup [vB Zi,vI ((v:I):J),.val (.int .i32 (fldC f v))])) 14 kx (Veg (P:=Ze) (o:=regO 5 Z8 0) (S:=lbS f v []) (x:=.tmp 13) (b:=13) (s:=f) (pos:=v) kx kx kx h) ?_;refine Vas (jB Zi) 15 kx kx ?_;exact Vbl rfl ⟨rfl,WK kx⟩
def lb5e(f:Zc):W Ze (.region 5 (Vaa 5 Z8) V) (λe S1=>e=.normal/\Xu S1 (lbS f f.size [(15,jB V)])) (lbS f f.size []):=by
 refine Vam ?_;rw[show(Vaa 5 Z8).toList=[regO 5 Z8 0,regO 5 Z8 1] by kernel_rfl];refine Vbs (.av (.tup [.val (.bool V)])) 14 kx (Vce (P:=Ze) (o:=regO 5 Z8 0) (S:=lbS f f.size []) (x:=.tmp 13) (b:=13) (s:=f) (pos:=f.size) kx kx kx (Qv _)) ?_;refine Vas (jB V) 15 kx kx ?_;exact Vbl rfl ⟨rfl,WK kx⟩
def lblM_to(s:Zc)(hs:s.size<=100000000):Va1 Ze 277 [jS s] [] [] (jS (lblM s)) [] []:=by
 have hf:=fold_to s hs
 by_cases h60:(fldM s).size>60
 ·have hd:Zf (((Za (fldM s):I):J)>60)=true:=Z5 kv;rw[show lblM s=⟨#[]⟩from Yu h60];refine bG Tryz.func277 ?_;refine gO (j7 hf<|i8 hd m5) ?_;exact eN
 ·have hd:Zf (((Za (fldM s):I):J)>60)=false:=Yj kv;obtain⟨f,hfe⟩:∃ f,f=fldM s:=⟨_,rfl⟩
  have hM:lblM s=if lblL f (f.size+1) 0 then f else⟨#[]⟩:=by rw[hfe];exact Z3 h60
  rw[hM];rw[<-hfe]at hf hd;clear hM h60 hfe;refine bG Tryz.func277 ?_;refine gO (j7 hf<|i8 hd<|kq 4 z) ?_;refine Jo (lbS f 0 []) z kx ?_ kx ?_
  ·refine Vaj (S':=sx 36 [(3,jS f)] [] []) (WK kx) ?_;exact Val (c':=.region 4 (Vaa 4 Z8) V) kx (lb4 f)
  refine LP (n:=f.size+1) (λN M S=>∃(v:I),v<=f.size/\lblL f N v=lblL f (f.size+1) 0/\f.size-v<N/\M=()/\S=lbS f v []) kx ⟨0,kv,rfl,kv,rfl,rfl⟩ (WK kx) ?_;rintro n0 M S ⟨v,hv,hL,hF0,rfl,rfl⟩;obtain⟨n0,rfl⟩:∃ k,n0=k+1:=⟨n0-1,kv⟩
  rw[lblL]at hL;refine gO (kq 5 z) ?_
  by_cases h1:v<f.size
  ·obtain⟨p1,p2⟩:=dec_pos h1;rw[Yu h1]at hL;have k1:=letL_to (lbR f v);have k2:=Vlw (lbR f v);have go:lbC (lbR f v)=Zi->lblL f n0 (v+(Zo f v).2)=lblL f (f.size+1) 0:=λh=>by rw[<-hL,h,Bool.true_and]
   cases c1:letL (lbR f v)with
   |true=>
    refine Jo (lbN f v) (kb (b:=Zi) (d:=Zi) rfl<|eq k1<|m0 c1<|kb c1 z) kx ?_ kx ?_
    ·refine Vaj (S':=lbS f v []) (WK kx) ?_;exact Val (c':=.region 5 (Vaa 5 Z8) V) kx (lb5 f v h1)
    exact AG (m:=n0) ⟨_,p2,go (by unfold lbC;rw[c1];simp),kv,rfl,rfl⟩ (WK kx) kx (Zh _)
   | false=>
    cases c2:digC (lbR f v)with
    |true=>
     refine Jo (lbN f v) (kb (b:=Zi) (d:=Zi) rfl<|eq k1<|m0 c1<|n7 k2<|m0 c2 z) kx ?_ kx ?_
     ·refine Vaj (S':=lbS f v []) (WK kx) ?_;exact Val (c':=.region 5 (Vaa 5 Z8) V) kx (lb5 f v h1)
     exact AG (m:=n0) ⟨_,p2,go (by unfold lbC;rw[c2];simp),kv,rfl,rfl⟩ (WK kx) kx (Zh _)
    | false=>
     cases c3:(lbR f v==32)with
     |true=>
      refine Jo (lbN f v) (kb (b:=Zi) (d:=Zi) rfl<|eq k1<|m0 c1<|n7 k2<|m0 c2<|w7 c3<|kb c3 z) kx ?_ kx ?_
      ·refine Vaj (S':=lbS f v []) (WK kx) ?_;exact Val (c':=.region 5 (Vaa 5 Z8) V) kx (lb5 f v h1)
      exact AG (m:=n0) ⟨_,p2,go (by unfold lbC;rw[c3];simp),kv,rfl,rfl⟩ (WK kx) kx (Zh _)
     | false=>
      cases c4:(lbR f v==45)with
      |true=>
       refine Jo (lbN f v) (kb (b:=Zi) (d:=Zi) rfl<|eq k1<|m0 c1<|n7 k2<|m0 c2<|w7 c3<|w7 c4<|kb c4 z) kx ?_ kx ?_
       ·refine Vaj (S':=lbS f v []) (WK kx) ?_;exact Val (c':=.region 5 (Vaa 5 Z8) V) kx (lb5 f v h1)
       exact AG (m:=n0) ⟨_,p2,go (by unfold lbC;rw[c4];simp),kv,rfl,rfl⟩ (WK kx) kx (Zh _)
      | false=>
       cases c5:(lbR f v==95)with
       |true=>
        refine Jo (lbN f v) (kb (b:=Zi) (d:=Zi) rfl<|eq k1<|m0 c1<|n7 k2<|m0 c2<|w7 c3<|w7 c4<|w7 c5<|kb c5 z) kx ?_ kx ?_
        ·refine Vaj (S':=lbS f v []) (WK kx) ?_;exact Val (c':=.region 5 (Vaa 5 Z8) V) kx (lb5 f v h1)
        exact AG (m:=n0) ⟨_,p2,go (by unfold lbC;rw[c5];simp),kv,rfl,rfl⟩ (WK kx) kx (Zh _)
       | false=>
        cases c6:(lbR f v==46)with
        |true=>
         refine Jo (lbN f v) (kb (b:=Zi) (d:=Zi) rfl<|eq k1<|m0 c1<|n7 k2<|m0 c2<|w7 c3<|w7 c4<|w7 c5<|w7 c6<|kb c6 z) kx ?_ kx ?_
         ·refine Vaj (S':=lbS f v []) (WK kx) ?_;exact Val (c':=.region 5 (Vaa 5 Z8) V) kx (lb5 f v h1)
         exact AG (m:=n0) ⟨_,p2,go (by unfold lbC;rw[c6];simp),kv,rfl,rfl⟩ (WK kx) kx (Zh _)
        | false=>
         cases c7:(lbR f v==58)with
         |true=>
          refine Jo (lbN f v) (kb (b:=Zi) (d:=Zi) rfl<|eq k1<|m0 c1<|n7 k2<|m0 c2<|w7 c3<|w7 c4<|w7 c5<|w7 c6<|w7 c7 z) kx ?_ kx ?_
          ·refine Vaj (S':=lbS f v []) (WK kx) ?_;exact Val (c':=.region 5 (Vaa 5 Z8) V) kx (lb5 f v h1)
          exact AG (m:=n0) ⟨_,p2,go (by unfold lbC;rw[c7];simp),kv,rfl,rfl⟩ (WK kx) kx (Zh _)
         |false=>
          have hn:lblL f (f.size+1) 0=false:=by rw[<-hL];unfold lbC;rw[c1,c2,c3,c4,c5,c6,c7];rfl
          rw[hn];refine Jo (lbN f v) (kb (b:=Zi) (d:=Zi) rfl<|eq k1<|m0 c1<|n7 k2<|m0 c2<|w7 c3<|w7 c4<|w7 c5<|w7 c6<|w7 c7 m5) kx ?_ kx ?_
          ·refine Vaj (S':=lbS f v []) (WK kx) ?_;exact Val (c':=.region 5 (Vaa 5 Z8) V) kx (lb5 f v h1)
          refine Ir z kx ?_;exact eN
  ·have hvs:v=f.size:=kv;subst hvs;rw[Z3 h1]at hL;rw[<-hL];refine Jo (lbS f f.size [(15,jB V)]) (kb (b:=V) (d:=V) rfl z) kx ?_ kx ?_
   ·refine Vaj (S':=lbS f f.size []) (WK kx) ?_;exact Val (c':=.region 5 (Vaa 5 Z8) V) kx (lb5e f)
   refine Ir j6 kx ?_;exact eN
end
section
open Go Go.Eng Go.RowKit
def idx1_to(s:Zc)(c:Ql):Va1 Ze 313 [jS s,jS ⟨#[c]⟩] [] [] (jI (idxB s (c.toNat:J))) [] []:=by
 refine Vcu ⟨Tryz.f313,Tryz.func313,kx,kx⟩ (λG w us h=>Vrz h) (λG w=>⟨rfl,rfl⟩) (λw=>?_);refine(Any.stringslite_Index_one Tryz.lays219 s c w).mono λe w' ⟨he,hw⟩=>⟨?_,by rw[hw];exact Below.refl _ _⟩
 have e2:(c.toNat:J).toNat.toUInt8=c:=ku;rw[he];unfold idxB;rw[e2]
end
section
open Go Go.Eng
def ctlM(s:Zc):(Zc×Zc×Yr):=Zp (Zf ((idxB s 93:J)>=0)) (Zd s 0 (Zb (idxB s 93)),Zd s (Zb ((idxB s 93)+((Za (⟨#[93]⟩):I):J))) (Za s),Zi) (s,⟨#[]⟩,V)
def ctlM_to(s:Zc)(hs:s.size<=1073741824):Va1 Ze 302 [(jS s),(jS (⟨#[93]⟩))] [] [] (.av (.tup [(vS ((ctlM s).1)),(vS ((ctlM s).2.1)),(vB ((ctlM s).2.2))])) [] []:=by
 refine D3 (λr:(Zc×Zc×Yr)=>(.av (.tup [(vS r.1),(vS r.2.1),(vB r.2.2)]))) (ctlM s) Tryz.func302 kx ?_;refine UF (ctlM.eq_1 ..) ?_;have:=idxB_bd s 93;have h93:Za (⟨#[93]⟩)=1:=rfl;refine GO (vq (idx1_to s 93) i6) kx ?_;refine CSd (λh1p h1=>?_) (λh1p h1=>?_)
 ·refine GO (kb h1 z) kx ?_;have:=Vai s 0 (Zb (idxB s 93));have:=Vai s (Zb ((idxB s 93)+((Za (⟨#[93]⟩):I):J))) (Za s);have d2:=wrE ((idxB s 93)+((Za (⟨#[93]⟩):I):J)) ((idxB s 93)+((Za (⟨#[93]⟩):I):J)) kv;refine D4 (p7 (show 0<=(0:J)/\(0:J)<=idxB s 93/\idxB s 93<=((Za s:I):J)from(by first|omega|(simp only[Va6,Xb];omega)))<|tn 4<|ko (nO d2)<|kp d2<|kp (show 0<=((idxB s 93)+((Za (⟨#[93]⟩):I):J):J)/\((idxB s 93)+((Za (⟨#[93]⟩):I):J):J)<=((Za s:I):J)/\((Za s:I):J)<=((Za s:I):J)from(by first|omega|(simp only[Va6,Xb];omega))) i6) kx kx kx ?_;exact EN kx
 ·refine GO (kb h1 i7) kx ?_;exact EN kx
def cutM(s:Zc):(Zc×Zc×Yr):=((ctlM s).1,(ctlM s).2.1,(ctlM s).2.2)
def cutM_to(s:Zc)(hs:s.size<=1073741824):Va1 Ze 276 [(jS s),(jS (⟨#[93]⟩))] [] [] (.av (.tup [(vS ((cutM s).1)),(vS ((cutM s).2.1)),(vB ((cutM s).2.2))])) [] []:=by
 refine D3 (λr:(Zc×Zc×Yr)=>(.av (.tup [(vS r.1),(vS r.2.1),(vB r.2.2)]))) (cutM s) Tryz.func276 kx ?_;refine UF (cutM.eq_1 ..) ?_;refine GO (vq (ctlM_to s ky) iq) kx ?_;exact EN kx
def wdtI_bd(b:J):0<=wdtI b/\wdtI b<=4:=by
 unfold wdtI
 repeat' (first|exact Va5 (λr:J=>0<=r/\r<=4) (λ_=>by decide) (λ_=>by decide)|refine Va5 (λr:J=>0<=r/\r<=4) (λ_=>?_) (λ_=>?_)|decide)
def bShl_bd(y:J)(h:0<=y/\y<=60):0<bShl .i64 1 y/\bShl .i64 1 y<=1152921504606846976:=by
 obtain⟨n,rfl⟩:∃ n:I,y=n:=⟨y.toNat,kv⟩
 have hn:n<=60:=kv;have:∀ n:I,n<=60->0<bShl .i64 1 (n:J)/\bShl .i64 1 (n:J)<=1152921504606846976:=gj;exact this n hn
def nxtN_L0(s:Zc)(i:J):I->J->I->(J×J)
 |0,_,_=>default
 |n0+1,v4,v71=>Zp (Zf (((v71:I):J)<(wdtI ((Yw s (Zb i):I):J))-1)) (Zp (Zp (Zf (((Yw s (Zb ((i+1)+((v71:I):J))):I):J)<128)) Zi (Zf (((Yw s (Zb ((i+1)+((v71:I):J))):I):J)>191))) (65533,1) (nxtN_L0 s i n0 (bOr .i64 (bShl .i64 v4 6) (IntKind.i64.wrap (bAnd .u8 ((Yw s (Zb ((i+1)+((v71:I):J))):I):J) 63))) (v71+1))) (v4,wdtI ((Yw s (Zb i):I):J))
def nxtN(s:Zc)(i:J):(J×J):=Zp (Zp (Zf ((i:J)<0)) Zi (Zf ((i:J)>=((Za s:I):J)))) ((-1),0) (Zp (Zp ((wdtI ((Yw s (Zb i):I):J):J)==0) Zi (Zf ((((Za s:I):J)-i:J)<wdtI ((Yw s (Zb i):I):J)))) (65533,1) (Zp ((wdtI ((Yw s (Zb i):I):J):J)==1) (IntKind.i64.wrap ((Yw s (Zb i):I):J),1) (Zp (Zp (Zf (((Yw s (Zb (i+1)):I):J)<(sndI ((Yw s (Zb i):I):J)).1)) Zi (Zf (((Yw s (Zb (i+1)):I):J)>(sndI ((Yw s (Zb i):I):J)).2))) (65533,1) (nxtN_L0 s i ((4-Zb 0)+1) (bAnd .i64 (IntKind.i64.wrap ((Yw s (Zb i):I):J)) ((bShl .i64 1 (7-(wdtI ((Yw s (Zb i):I):J))))-1)) 0))))
def Vco(s:Zc)(i:J)(hs:s.size<=1073741824)(h0:0<=i)(h1:i<=s.size):Va1 Ze 144 [(jS s),(jI i)] [] [] (.av (.tup [(vI ((nxtN s i).1)),(vI ((nxtN s i).2))])) [] []:=by
 refine D3 (λr:(J×J)=>(.av (.tup [(vI r.1),(vI r.2)]))) (nxtN s i) Tryz.func144 kx ?_;refine UF (nxtN.eq_1 ..) ?_;refine GO (jq (Zf ((i:J)<0)) z i7 z) kx ?_;refine CS (λh1=>?_) (λh1=>?_)
 ·refine GO (kb h1 j6) kx ?_;exact EN kx
 ·obtain⟨h1a,h1o⟩:=Va8 h1;have h1ap:=Zx h1a;have h1op:=Zx h1o;have:=wdtI_bd ((Yw s (Zb i):I):J);refine GO (kb h1<|p7 (ib s i kv)<|kc (wdtI_to ((Yw s (Zb i):I):J))<|j8 ((wdtI ((Yw s (Zb i):I):J):J)==0) z (tn 3<|hn (λh=>by have j0:=h.2;have j0p:=Ya j0;exact(wrE (((Za s:I):J)-i) (((Za s:I):J)-i) kv)) j6) z) kx ?_;refine CS (λh2=>?_) (λh2=>?_)
  ·refine GO (kb h2 j6) kx ?_;exact EN kx
  ·obtain⟨h2a,h2o⟩:=Va8 h2;have h2ap:=Ya h2a;have h2op:=Zx h2o;refine GO (kb h2 j6) kx ?_;refine CSe (λh3p h3=>?_) (λh3p h3=>?_)
   ·have:=Vbm s (Zb i);have:=Vcm s (Zb i);refine GO (kb h3<|p7 (ib s i kv) i6) kx ?_;exact EN kx
   ·refine GO (kb h3<|p7 (ib s i kv)<|kc (sndI_to ((Yw s (Zb i):I):J))<|tn 7<|kn (wrE (i+1) (i+1) kv)<|kp (ib s (i+1) kv)<|t7 (Zf (((Yw s (Zb (i+1)):I):J)<(sndI ((Yw s (Zb i):I):J)).1)) z (dq (λh=>by have j0:=h.2;have j0p:=Zx j0;exact(wrE (i+1) (i+1) kv))<|hp (λh=>by have j0:=h.2;have j0p:=Zx j0;exact(ib s (i+1) kv)) j6) z) kx ?_;refine CS (λh4=>?_) (λh4=>?_)
    ·refine GO (kb h4 j6) kx ?_;exact EN kx
    ·obtain⟨h4a,h4o⟩:=Va8 h4;have h4ap:=Zx h4a;have h4op:=Zx h4o;refine GO (kb h4 z) kx ?_;have:=Vbm s (Zb i);have:=Vcm s (Zb i);have:=bShl_bd (7-(wdtI ((Yw s (Zb i):I):J))) kv;have d5:=wrE (7-(wdtI ((Yw s (Zb i):I):J))) (7-(wdtI ((Yw s (Zb i):I):J))) kv;have d6:=wrE ((bShl .i64 1 (7-(wdtI ((Yw s (Zb i):I):J))))-1) ((bShl .i64 1 (7-(wdtI ((Yw s (Zb i):I):J))))-1) kv;refine D4 (p7 (show 0<=(i:J)/\(i:J)<((Za s:I):J)from(by first|omega|(simp only[Va6,Xb];omega)))<|pq (nO d5)<|kp d5<|kp (show 0<=(7-(wdtI ((Yw s (Zb i):I):J)):J)from kv)<|ko (nO d6)<|kp d6<|t8 (wrE ((wdtI ((Yw s (Zb i):I):J))-1) ((wdtI ((Yw s (Zb i):I):J))-1) kv) m5) kx kx kx ?_;refine LP (λN M S=>∃ v4:J,∃v71:I,(0<=v71)/\(4-Zb v71<N)/\M=nxtN_L0 s i N v4 v71/\S=(sx 95 [(0,(jS s)),(1,(jI i)),(4,(jI v4)),(6,(jI (wdtI ((Yw s (Zb i):I):J)))),(70,(jI ((wdtI ((Yw s (Zb i):I):J))-1))),(71,(jI ((v71:I):J)))] [] [])) kx ⟨_,_,by first|omega|assumption|(simp only[Va6];omega)|(simp;done)|(simp;omega),kv,rfl,rfl⟩ (WK kx) ?_;rintro n0 M S ⟨v4,v71,hv,hF0,rfl,rfl⟩;obtain⟨n0,rfl⟩:∃ k,n0=k+1:=⟨n0-1,kv⟩
     refine UF (nxtN_L0.eq_2 ..) ?_;refine GO m5 kx ?_;refine CSd (λh7p h7=>?_) (λh7p h7=>?_)
     ·refine GO (kb h7<|yq (wrE (i+1) (i+1) kv)<|m6 (wrE ((i+1)+((v71:I):J)) ((i+1)+((v71:I):J)) kv)<|kp (ib s ((i+1)+((v71:I):J)) kv)<|j8 (Zf (((Yw s (Zb ((i+1)+((v71:I):J))):I):J)<128)) z j6 z) kx ?_;refine CS (λh8=>?_) (λh8=>?_)
      ·refine GO (kb h8 j6) kx ?_;refine Ir z kx ?_;exact EN kx
      ·obtain⟨h8a,h8o⟩:=Va8 h8;have h8ap:=Zx h8a;have h8op:=Zx h8o;refine GO (kb h8<|p9 (show 0<=(6:J)from gj)<|tn 5<|kn (wrE (((v71:I):J)+1) ((v71+1:I):J) kv) m5) kx ?_;exact AG ⟨_,_,by first|omega|assumption|(simp only[Va6];omega)|(simp;done)|(simp;omega),kv,rfl,rfl⟩ (WK kx) kx (Zh _)
     ·refine GO (kb h7 z) kx ?_;refine Ir i7 kx ?_;exact EN kx
def ctnG(s:Zc)(p:Zc):Bool:=Zf ((idxA s p:J)>=0)
def Vpe(s:Zc)(p:Zc)(hs:s.size<=1073741824)(hp:p.size<=1073741824)(hp2:2<=p.size)(ha:A7 p):Va1 Ze 176 [(jS s),(jS p)] [] [] (jB (ctnG s p)) [] []:=by
 refine D3 (λr:Yr=>(jB r)) (ctnG s p) Tryz.func176 kx ?_;refine UF (ctnG.eq_1 ..) ?_;have:=Vlj s p;refine gO (m8 (idxG_to s p ky ky (by first|decide|assumption) (by first|assumption|exact A7.lit gj)) j6) ?_;exact EN kx
def seqS(c:J):ByteArray:=Zv (IntKind.i32.wrap (Zp (Zp (Zp (Zf ((c:J)<0)) Zi (Zf ((c:J)>1114111))) Zi (Zp (Zf ((c:J)>=55296)) (Zf ((c:J)<=57343)) V)) 65533 c))
def seqS_to(c:J):Va1 Ze 229 [(jI c)] [] [] (jS (seqS c)) [] []:=by
 refine D3 (λr:Zc=>(jS r)) (seqS c) Tryz.func229 kx ?_;refine UF (seqS.eq_1 ..) ?_;have:=Vgb (Zp (Zp (Zf ((c:J)<0)) Zi (Zf ((c:J)>1114111))) Zi (Zp (Zf ((c:J)>=55296)) (Zf ((c:J)<=57343)) V)) 65533 c;refine gO (j8 (Zf ((c:J)<0)) z j6<|m7 (Zp (Zf ((c:J)<0)) Zi (Zf ((c:J)>1114111))) z (t7 (Zf ((c:J)>=55296)) j6 z z)<|ks (Zp (Zp (Zf ((c:J)<0)) Zi (Zf ((c:J)>1114111))) Zi (Zp (Zf ((c:J)>=55296)) (Zf ((c:J)<=57343)) V)) [0] m5 z i7) ?_;exact EN kx
def enc_sz(c:J):1<=(Zv c).size/\(Zv c).size<=4:=by
 by_cases h:128<=c
 ·have:=enc_last c h;omega
 ·unfold Zv;simp only
  repeat' split
  all_goals exact⟨Z4 rfl,Z4 rfl⟩
def seqS_bd(c:J):(seqS c).size<=4:=by
 unfold seqS;exact(enc_sz _).2
def appS(s:Zc)(c:J):ByteArray:=s++(seqS c)
def appS_to(s:Zc)(c:J)(hs:s.size<=1073741824):Va1 Ze 184 [(jS s),(jI c)] [] [] (jS (appS s c)) [] []:=by
 refine D3 (λr:Zc=>(jS r)) (appS s c) Tryz.func184 kx ?_;refine UF (appS.eq_1 ..) ?_;have:=seqS_bd c;refine gO (m8 (seqS_to c)<|kp (show((Za s+Za (seqS c):I):J)<=IntKind.i64.max from(by simp[IntKind.max,Dd,Dv];omega)) m5) ?_;exact EN kx
def dolG(s:Zc)(i:J):(Y5×J):=Zp (Zf ((idxA (Zd s (Zb (i+1)) (Za s)) (⟨#[36,10]⟩):J)<1)) (Xo 0 (⟨#[]⟩) (⟨#[]⟩) (⟨#[]⟩) (DAttr.mk (⟨#[]⟩) ([]) ([])) ([]) ([]) ([]),0) (Zp (Zp (Zp (((Yw s (Zb ((i+1)+(idxA (Zd s (Zb (i+1)) (Za s)) (⟨#[36,10]⟩)))):I):J) !=36) Zi (((Yw s (Zb (i+1)):I):J)==32)) Zi (((Yw s (Zb (((i+1)+(idxA (Zd s (Zb (i+1)) (Za s)) (⟨#[36,10]⟩)))-1)):I):J)==32)) (Xo 0 (⟨#[]⟩) (⟨#[]⟩) (⟨#[]⟩) (DAttr.mk (⟨#[]⟩) ([]) ([])) ([]) ([]) ([]),0) (Zp (Zp (Zf ((((i+1)+(idxA (Zd s (Zb (i+1)) (Za s)) (⟨#[36,10]⟩)))+1:J)<((Za s:I):J))) (digC (IntKind.i64.wrap ((Yw s (Zb (((i+1)+(idxA (Zd s (Zb (i+1)) (Za s)) (⟨#[36,10]⟩)))+1)):I):J))) V) (Xo 0 (⟨#[]⟩) (⟨#[]⟩) (⟨#[]⟩) (DAttr.mk (⟨#[]⟩) ([]) ([])) ([]) ([]) ([]),0) (Xo 5 (Zd s (Zb (i+1)) (Zb ((i+1)+(idxA (Zd s (Zb (i+1)) (Za s)) (⟨#[36,10]⟩))))) (⟨#[]⟩) (⟨#[]⟩) (DAttr.mk (⟨#[]⟩) ([]) ([])) ([]) ([]) ([]),((i+1)+(idxA (Zd s (Zb (i+1)) (Za s)) (⟨#[36,10]⟩)))+1)))
def dolG_to(s:Zc)(i:J)(hs:s.size<=1073741824)(h0:0<=i)(h1:i<s.size):Va1 Ze 137 [(jS s),(jI i)] [] [] (.av (.tup [(Vaq ((dolG s i).1)),(vI ((dolG s i).2))])) [] []:=by
 refine D3 (λr:(Y5×J)=>(.av (.tup [(Vaq r.1),(vI r.2)]))) (dolG s i) Tryz.func137 kx ?_;refine UF (dolG.eq_1 ..) ?_;have:=Vai s (Zb (i+1)) (Za s);have:=Vlj (Zd s (Zb (i+1)) (Za s)) (⟨#[36,10]⟩);refine gO (yq (wrE (i+1) (i+1) kv)<|kp (show 0<=(i+1:J)/\(i+1:J)<=((Za s:I):J)/\((Za s:I):J)<=((Za s:I):J)from(by first|omega|(simp only[Va6,Xb];omega)))<|kc (idxG_to (Zd s (Zb (i+1)) (Za s)) (⟨#[36,10]⟩) ky ky (by first|decide|assumption) (by first|assumption|exact A7.lit gj)) i6) ?_;refine CSd (λh1p h1=>?_) (λh1p h1=>?_)
 ·refine gO (kb h1 i6) ?_;exact EN kx
 ·refine gO (kb h1<|m6 (wrE (i+1) (i+1) kv)<|m6 (wrE ((i+1)+(idxA (Zd s (Zb (i+1)) (Za s)) (⟨#[36,10]⟩))) ((i+1)+(idxA (Zd s (Zb (i+1)) (Za s)) (⟨#[36,10]⟩))) kv)<|qq (ib s ((i+1)+(idxA (Zd s (Zb (i+1)) (Za s)) (⟨#[36,10]⟩))) kv)<|wq (((Yw s (Zb ((i+1)+(idxA (Zd s (Zb (i+1)) (Za s)) (⟨#[36,10]⟩)))):I):J) !=36) z (dq (λh=>by have j0:=h.2;have j0p:=Va7 j0;exact(wrE (i+1) (i+1) kv))<|hp (λh=>by have j0:=h.2;have j0p:=Va7 j0;exact(ib s (i+1) kv)) m5)<|m7 (Zp (((Yw s (Zb ((i+1)+(idxA (Zd s (Zb (i+1)) (Za s)) (⟨#[36,10]⟩)))):I):J) !=36) Zi (((Yw s (Zb (i+1)):I):J)==32)) z (dq (λh=>by have j0:=h.2;obtain⟨j0a,j0o⟩:=Va8 j0;have j0ap:=Va7 j0a;have j0op:=Ya j0o;exact(wrE (((i+1)+(idxA (Zd s (Zb (i+1)) (Za s)) (⟨#[36,10]⟩)))-1) (((i+1)+(idxA (Zd s (Zb (i+1)) (Za s)) (⟨#[36,10]⟩)))-1) kv))<|hp (λh=>by have j0:=h.2;obtain⟨j0a,j0o⟩:=Va8 j0;have j0ap:=Va7 j0a;have j0op:=Ya j0o;exact(ib s (((i+1)+(idxA (Zd s (Zb (i+1)) (Za s)) (⟨#[36,10]⟩)))-1) kv)) m5) z) ?_;refine CS (λh2=>?_) (λh2=>?_)
  ·refine gO (kb h2 i6) ?_;exact EN kx
  ·obtain⟨h2a,h2o⟩:=Va8 h2;obtain⟨h2aa,h2ao⟩:=Va8 h2a;have h2aap:=Va7 h2aa;have h2aop:=Ya h2ao;have h2op:=Ya h2o;refine gO (kb h2<|m6 (wrE (((i+1)+(idxA (Zd s (Zb (i+1)) (Za s)) (⟨#[36,10]⟩)))+1) (((i+1)+(idxA (Zd s (Zb (i+1)) (Za s)) (⟨#[36,10]⟩)))+1) kv)<|j8 (Zf ((((i+1)+(idxA (Zd s (Zb (i+1)) (Za s)) (⟨#[36,10]⟩)))+1:J)<((Za s:I):J))) (dq (λh=>by have j0:=h.2;have j0p:=Zr j0;exact(wrE (((i+1)+(idxA (Zd s (Zb (i+1)) (Za s)) (⟨#[36,10]⟩)))+1) (((i+1)+(idxA (Zd s (Zb (i+1)) (Za s)) (⟨#[36,10]⟩)))+1) kv))<|hp (λh=>by have j0:=h.2;have j0p:=Zr j0;exact(ib s (((i+1)+(idxA (Zd s (Zb (i+1)) (Za s)) (⟨#[36,10]⟩)))+1) kv))<|tn 1<|hc (λh=>by have j0:=h.2;have j0p:=Zr j0;have:=Vbm s (Zb (((i+1)+(idxA (Zd s (Zb (i+1)) (Za s)) (⟨#[36,10]⟩)))+1));have:=Vcm s (Zb (((i+1)+(idxA (Zd s (Zb (i+1)) (Za s)) (⟨#[36,10]⟩)))+1));exact(Vlw (IntKind.i64.wrap ((Yw s (Zb (((i+1)+(idxA (Zd s (Zb (i+1)) (Za s)) (⟨#[36,10]⟩)))+1)):I):J)))) z) z z) ?_;refine CS (λh3=>?_) (λh3=>?_)
   ·obtain⟨h3a,h3o⟩:=Va9 h3;have h3ap:=Zr h3a;refine gO (kb h3 i6) ?_;exact EN kx
   ·have:=Vai s (Zb (i+1)) (Zb ((i+1)+(idxA (Zd s (Zb (i+1)) (Za s)) (⟨#[36,10]⟩))));refine gO (kb h3<|p8 (wrE (i+1) (i+1) kv)<|p9 (show 0<=(i+1:J)/\(i+1:J)<=(i+1)+(idxA (Zd s (Zb (i+1)) (Za s)) (⟨#[36,10]⟩))/\(i+1)+(idxA (Zd s (Zb (i+1)) (Za s)) (⟨#[36,10]⟩))<=((Za s:I):J)from(by first|omega|(simp only[Va6,Xb];omega)))<|p8 (wrE (((i+1)+(idxA (Zd s (Zb (i+1)) (Za s)) (⟨#[36,10]⟩)))+1) (((i+1)+(idxA (Zd s (Zb (i+1)) (Za s)) (⟨#[36,10]⟩)))+1) kv) j6) ?_;exact EN kx
def befI_L0(s:Zc)(i:J):I->J->J
 |0,_=>default
 |n0+1,v5=>Zp (Zf ((v5:J)>1)) (Zp (Zf ((i:J)<v5)) (befI_L0 s i n0 (v5-1)) (Zp (((nxtN s (i-v5)).2:J)==v5) ((nxtN s (i-v5)).1) (befI_L0 s i n0 (v5-1)))) ((nxtN (Zd s (Zb (i-1)) (Zb i)) 0).1)
def befI(s:Zc)(i:J):Int:=Zp ((i:J)==0) (-1) (befI_L0 s i ((Zb 4)+1) 4)
def befI_to(s:Zc)(i:J)(hs:s.size<=1073741824)(h0:0<=i)(h1:i<=s.size):Va1 Ze 191 [(jS s),(jI i)] [] [] (jI (befI s i)) [] []:=by
 refine D3 (λr:J=>(jI r)) (befI s i) Tryz.func191 kx ?_;refine UF (befI.eq_1 ..) ?_;refine gO i6 ?_;refine CSe (λh1p h1=>?_) (λh1p h1=>?_)
 ·refine gO (kb h1 m5) ?_;exact EN kx
 ·refine gO (kb h1 m5) ?_;refine LP (λN M S=>∃ v5:J,(1<=v5/\v5<=4)/\(Zb v5<N)/\M=befI_L0 s i N v5/\S=(sx 41 [(0,(jS s)),(1,(jI i)),(5,(jI v5))] [] [])) kx ⟨_,by first|omega|assumption|(simp only[Va6];omega)|(simp;done)|(simp;omega),kv,rfl,rfl⟩ (WK kx) ?_;rintro n0 M S ⟨v5,hv,hF0,rfl,rfl⟩;obtain⟨n0,rfl⟩:∃ k,n0=k+1:=⟨n0-1,kv⟩
  refine UF (befI_L0.eq_2 ..) ?_;refine gO j6 ?_;refine CSd (λh2p h2=>?_) (λh2p h2=>?_)
  ·refine gO (kb h2 i6) ?_;refine CSd (λh3p h3=>?_) (λh3p h3=>?_)
   ·refine gO (kb h3<|m6 (wrE (v5-1) (v5-1) kv) m5) ?_;exact AG ⟨_,by first|omega|assumption|(simp only[Va6];omega)|(simp;done)|(simp;omega),kv,rfl,rfl⟩ (WK kx) kx (Zh _)
   ·refine gO (kb h3<|t8 (wrE (i-v5) (i-v5) kv)<|kc (Vco s (i-v5) ky ky ky)<|tn 8 z) ?_;refine CSe (λh4p h4=>?_) (λh4p h4=>?_)
    ·refine gO (kb h4 j6) ?_;refine Ir z kx ?_;exact EN kx
    ·refine gO (kb h4<|m6 (wrE (v5-1) (v5-1) kv) m5) ?_;exact AG ⟨_,by first|omega|assumption|(simp only[Va6];omega)|(simp;done)|(simp;omega),kv,rfl,rfl⟩ (WK kx) kx (Zh _)
  ·refine gO (kb h2 z) ?_;have:=Vai s (Zb (i-1)) (Zb i);refine Ir (p8 (wrE (i-1) (i-1) kv)<|p9 (show 0<=(i-1:J)/\(i-1:J)<=i/\i<=((Za s:I):J)from(by first|omega|(simp only[Va6,Xb];omega)))<|kc (Vco (Zd s (Zb (i-1)) (Zb i)) 0 ky ky ky) lq) kx ?_;exact EN kx
def runP(s:Zc)(ka:F J)(va:F AV)(kd:F J)(vd:F AV)(i:J):(Zq×Yr):=Zp (Zp (((Yw s (Zb i):I):J)==126) (((runE s i)-i:J) !=2) V) (litP s i (runE s i),Zi) (DPiece.mk 1 (Xo 0 (⟨#[]⟩) (⟨#[]⟩) (⟨#[]⟩) (DAttr.mk (⟨#[]⟩) ([]) ([])) ([]) ([]) ([])) (Zd s (Zb i) (Zb (i+1))) ((runE s i)-i) ((flkB (Zd s (Zb i) (Zb (i+1))) (befI s i) ((nxtN s (runE s i)).1)).1) ((flkB (Zd s (Zb i) (Zb (i+1))) (befI s i) ((nxtN s (runE s i)).1)).2) V 0 (runE s i),V)
def runP_to(s:Zc)(ka:F J)(va:F AV)(kd:F J)(vd:F AV)(i:J)(hs:s.size<=1073741824)(h0:0<=i)(h1:i<s.size):Va1 Ze 143 [(.av (.agg [(vS s),(.im ka va),(.im kd vd)])),(jI i)] [] [] (.av (.tup [(Vby ((runP s ka va kd vd i).1)),(vB ((runP s ka va kd vd i).2))])) [] []:=by
 refine D3 (λr:(Zq×Yr)=>(.av (.tup [(Vby r.1),(vB r.2)]))) (runP s ka va kd vd i) Tryz.func143 kx ?_;refine UF (runP.eq_1 ..) ?_;have:=Vf3 s i gk;refine gO (eq (Vky s i ky ky ky)<|z8 (ib s i kv)<|wq (((Yw s (Zb i):I):J)==126) (dq (λh=>by have j0:=h.2;have j0p:=eq_of_beq j0;exact(wrE ((runE s i)-i) ((runE s i)-i) kv)) m5) z z) ?_;refine CS (λh1=>?_) (λh1=>?_)
 ·obtain⟨h1a,h1o⟩:=Va9 h1;have h1ap:=eq_of_beq h1a;have h1op:=I1.1 h1o;refine gO (kb h1<|cq (Vcr s i (runE s i) ky ky ky ky) j6) ?_;exact EN kx
 ·have:=Vai s (Zb i) (Zb (i+1));refine gO (kb h1<|yq (wrE (i+1) (i+1) kv)<|kp (show 0<=(i:J)/\(i:J)<=i+1/\i+1<=((Za s:I):J)from(by first|omega|(simp only[Va6,Xb];omega)))<|cq (Vco s (runE s i) ky ky ky)<|tn 9<|kc (befI_to s i ky ky ky)<|n7 (flkB_to (Zd s (Zb i) (Zb (i+1))) (befI s i) ((nxtN s (runE s i)).1))<|tn 8<|kn (wrE ((runE s i)-i) ((runE s i)-i) kv) iq) ?_;exact EN kx
def bytI_lt(s:Zc)(j:I):0<=((Yw s j:I):J)/\((Yw s j:I):J)<256:=by
 show 0<=(((s.data.getD j 0).toNat:I):J)/\(((s.data.getD j 0).toNat:I):J)<256;have:=(s.data.getD j 0).toNat_lt;omega
def size_push(s:Zc)(b:Ql):(s.push b).size=s.size+1:=ku
def Vjc(s:Zc)(i:J)(h:0<=i/\i<s.size):i<=Zp (escL s i) (i+1) i/\Zp (escL s i) (i+1) i<s.size:=by
 cases he:escL s i with
 |false=>simp only[Z2];omega
 |true=>
  simp only[Z1];refine⟨kv,?_⟩;unfold escL at he
  by_cases h2:i+1<(s.size:J)
  ·exact h2
  ·exfalso;have hd:Zf ((i+1:J)<((Za s:I):J))=false:=Yj h2;simp[hd]at he
def uneS_L0(s:Zc):I->J->Zc->Zc
 |0,_,_=>default
 |n0+1,v4,vb3_1=>Zp (Zf ((v4:J)<((Za s:I):J))) (uneS_L0 s n0 ((Zp (escL s v4) (v4+1) v4)+1) (Im vb3_1 (u8 ((Yw s (Zb (Zp (escL s v4) (v4+1) v4)):I):J)))) vb3_1
def uneS(s:Zc):ByteArray:=uneS_L0 s ((s.size-Zb 0)+1) 0 (⟨#[]⟩)
def uneS_to(s:Zc)(hs:s.size<=1073741824)(h0:0<s.size):Va1 Ze 280 [(jS s)] [] [] (jS (uneS s)) [] []:=by
 refine D3 (λr:Zc=>(jS r)) (uneS s) Tryz.func280 kx ?_;refine UF (uneS.eq_1 ..) ?_;refine GO (tn 2<|kq 2 z) kx ?_;refine RT [(3,0,(.son 3)),(3,1,(.own (1300,6) 0 1 (Vab (⟨#[]⟩))))] (ac (show(AV.val (.pointer Zw))=.val (.pointer Zw)from rfl) (ac (show(Vab ⟨#[]⟩:F AV)=[]/\0<6/\(0:I)=0 from⟨rfl,gj,rfl⟩) an)) kx ?_;refine GO m5 kx ?_;refine LP (λN M S=>∃ v4:J,∃gvb3_1:I,∃vb3_1:Zc,(0<=v4/\v4<=s.size)/\((vb3_1.size:J)<=v4/\(0<v4->0<vb3_1.size))/\(s.size-Zb v4<N)/\M=uneS_L0 s N v4 vb3_1/\S=(sx 21 [(0,(jS s)),(3,(.ptr 3 0)),(4,(jI v4))] [(3,(.cells 80 [(.son 3),(.own (1300,6) gvb3_1 1 (Vab vb3_1))]))] [((1300,6),gvb3_1)])) kx ⟨_,0,_,kv,⟨gj,kv⟩,kv,rfl,rfl⟩ (WK kx) ?_;rintro n0 M S ⟨v4,gvb3_1,vb3_1,hv,hz,hF0,rfl,rfl⟩;obtain⟨n0,rfl⟩:∃ k,n0=k+1:=⟨n0-1,kv⟩
 refine UF (uneS_L0.eq_2 ..) ?_;refine GO i7 kx ?_;refine CSd (λh1p h1=>?_) (λh1p h1=>?_)
 ·have:=Vjc s v4 kv;have:=Vgb (escL s v4) (v4+1) v4;refine GO (kb h1<|j7 (Vp9 s v4 ky ky ky)<|ks (escL s v4) [4] (tn 1<|hn (λh=>by have j0:=h.2;exact(wrE (v4+1) (v4+1) kv)) m5) z<|p7 (ib s (Zp (escL s v4) (v4+1) v4) kv)<|kg (Vac (Vah (3,0) (1000,0) rfl) (Ve6 vb3_1 ((Yw s (Zb (Zp (escL s v4) (v4+1) v4)):I):J) gvb3_1 ky (bytI_lt _ _))) (show(gvb3_1:I)=gvb3_1/\Y6 from⟨rfl,Zt⟩)<|m6 (wrE ((Zp (escL s v4) (v4+1) v4)+1) ((Zp (escL s v4) (v4+1) v4)+1) kv) m5) kx ?_;exact AG ⟨_,gvb3_1+1,_,kv,by rw[size_push];omega,kv,rfl,rfl⟩ (WK kx) kx (Zh _)
 ·refine GO (kb h1 z) kx ?_;refine Ir (kg (Vac (Vah (3,0) (1000,0) rfl) (Vmc (.son 1000) 1300 gvb3_1 vb3_1 kv kv)) (show(gvb3_1:I)=gvb3_1/\Y6 from⟨rfl,Zt⟩) m5) kx ?_;exact EN kx
def Vo9(s:Zc)(hs:s.size<=1073741824):Va1 Ze 280 [jS s] [] [] (jS (uneS s)) [] []:=by
 by_cases h0:0<s.size
 ·exact uneS_to s hs h0
 ·obtain rfl:=size0 (s:=s) kv;have e:uneS ⟨#[]⟩=⟨#[]⟩:=rfl;rw[e];have hst:Va1 Ze 38 [.ptr 3 0] [(3,.cells 80 [.av (.val (.pointer Zw)),.nil])] [] (jS ⟨#[]⟩) [(3,.cells 80 [.av (.val (.pointer Zw)),.nil])] []:=Vcz kx (Vac (Vah (3,0) (1000,0) rfl) (Vo2 (.av (.val (.pointer Zw)))));refine bG Tryz.func280 ?_;refine gO i6 ?_;refine uN (sx 21 [(0,jS ⟨#[]⟩),(3,.ptr 3 0),(4,jI 0)] [(3,.cells 80 [.av (.val (.pointer Zw)),.nil])] []) 1 ?_;refine gO (i8 (b:=V) (d:=V) rfl z) ?_;refine UO (kg hst Zt m5) kx ?_;exact eN
def Vn1(s:Zc):∀(n:I)(v:J)(b:Zc),0<=v->v<=s.size->s.size-v.toNat<n->((uneS_L0 s n v b).size:J)<=b.size+(s.size-v)
 |0,v,b,_,_,h=>by omega
 |n+1,v,b,h0,h1,h2=>by
  rw[uneS_L0];refine Va5 (λr:Zc=>((r.size:J)<=b.size+(s.size-v))) (λq=>?_) (λq=>by omega);have q2:=Zr q;have hb:=Vjc s v kv;have ih:=Vn1 s n ((Zp (escL s v) (v+1) v)+1) (Im b (u8 ((Yw s (Zb (Zp (escL s v) (v+1) v)):I):J))) kv kv kv;rw[size_push]at ih;omega
def Vkj(s:Zc):(uneS s).size<=s.size:=by
 have:=Vn1 s ((s.size-Zb 0)+1) 0 ⟨#[]⟩ kv kv kv;have e0:(⟨#[]⟩:Zc).size=0:=rfl;unfold uneS;rw[e0]at this;omega
def opn_step(e a b:Yr)(v lo:J)(h:lo<=v):lo-1<=Zp e v (Zp a (v+1) (Zp b (v-1) v)):=by
 cases e <;>cases a <;>cases b <;>simp <;>omega
def angS_L0(s:Zc)(i:J):I->J->(Zc×J×Yr)
 |0,_=>default
 |n0+1,v7=>Zp (Zf ((v7:J)<((Za s:I):J))) (Zp (escL s v7) (angS_L0 s i n0 ((v7+1)+1)) (Zp (((Yw s (Zb v7):I):J)==62) (uneS (Zd s (Zb (i+1)) (Zb v7)),v7+1,Zi) (Zp (Zp (((Yw s (Zb v7):I):J)==60) (((Yw s (Zb v7):I):J)==60) (((Yw s (Zb v7):I):J)==10)) (⟨#[]⟩,0,V) (angS_L0 s i n0 (v7+1))))) (⟨#[]⟩,0,V)
def angS(s:Zc)(i:J):(Zc×J×Yr):=angS_L0 s i ((s.size-Zb (i+1))+1) (i+1)
def angS_to(s:Zc)(i:J)(hs:s.size<=1073741824)(h0:0<=i)(h1:i<s.size):Va1 Ze 278 [(jS s),(jI i)] [] [] (.av (.tup [(vS ((angS s i).1)),(vI ((angS s i).2.1)),(vB ((angS s i).2.2))])) [] []:=by
 refine D3 (λr:(Zc×J×Yr)=>(.av (.tup [(vS r.1),(vI r.2.1),(vB r.2.2)]))) (angS s i) Tryz.func278 kx ?_;refine UF (angS.eq_1 ..) ?_;refine gO (yq (wrE (i+1) (i+1) kv) m5) ?_;refine LP (λN M S=>∃ v7:J,(0<=v7/\i+1<=v7/\v7<=s.size+1)/\(s.size-Zb v7<N)/\M=angS_L0 s i N v7/\S=(sx 44 [(0,(jS s)),(1,(jI i)),(7,(jI v7))] [] [])) kx ⟨_,by first|omega|assumption|(simp only[Va6];omega)|(simp;done)|(simp;omega),kv,rfl,rfl⟩ (WK kx) ?_;rintro n0 M S ⟨v7,hv,hF0,rfl,rfl⟩;obtain⟨n0,rfl⟩:∃ k,n0=k+1:=⟨n0-1,kv⟩
 refine UF (angS_L0.eq_2 ..) ?_;refine gO i7 ?_;refine CSd (λh1p h1=>?_) (λh1p h1=>?_)
 ·have:=Vjc s v7 kv;refine gO (kb h1<|j7 (Vp9 s v7 ky ky ky) m5) ?_;refine CS (λh2=>?_) (λh2=>?_)
  ·refine gO (kb h2<|m6 (wrE (v7+1) (v7+1) kv)<|p8 (wrE ((v7+1)+1) ((v7+1)+1) kv) m5) ?_;exact AG ⟨_,by first|omega|assumption|(simp only[Va6];omega)|(simp;done)|(simp;omega),kv,rfl,rfl⟩ (WK kx) kx (Zh _)
  ·refine gO (kb h2<|p7 (ib s v7 kv) j6) ?_;refine CSe (λh3p h3=>?_) (λh3p h3=>?_)
   ·have:=Vai s (Zb (i+1)) (Zb v7);have:=Vkj (Zd s (Zb (i+1)) (Zb v7));refine gO (kb h3<|p8 (wrE (i+1) (i+1) kv)<|p9 (show 0<=(i+1:J)/\(i+1:J)<=v7/\v7<=((Za s:I):J)from(by first|omega|(simp only[Va6,Xb];omega)))<|kc (Vo9 (Zd s (Zb (i+1)) (Zb v7)) ky)<|m6 (wrE (v7+1) (v7+1) kv) i6) ?_;refine Ir z kx ?_;exact EN kx
   ·refine gO (kb h3<|p7 (ib s v7 kv)<|tn 2<|ks (((Yw s (Zb v7):I):J)==60) [35] z (m9 (λh=>by have j0:=h.2;have j0p:=Ya j0;exact(ib s v7 kv)) j6) z) ?_;refine CS (λh4=>?_) (λh4=>?_)
    ·refine gO (kb h4 i6) ?_;refine Ir z kx ?_;exact EN kx
    ·refine gO (kb h4<|m6 (wrE (v7+1) (v7+1) kv) m5) ?_;exact AG ⟨_,by first|omega|assumption|(simp only[Va6];omega)|(simp;done)|(simp;omega),kv,rfl,rfl⟩ (WK kx) kx (Zh _)
 ·refine gO (kb h1 z) ?_;refine Ir i6 kx ?_;exact EN kx
def quoS_L0(s:Zc)(i:J)(last:J):I->J->(Zc×J×Yr)
 |0,_=>default
 |n0+1,v9=>Zp (Zf ((v9:J)<((Za s:I):J))) (Zp (escL s v9) (quoS_L0 s i last n0 ((v9+1)+1)) (Zp (((Yw s (Zb v9):I):J)==last) (uneS (Zd s (Zb (i+1)) (Zb v9)),v9+1,Zi) (Zp (((Yw s (Zb v9):I):J)==10) (⟨#[]⟩,0,V) (quoS_L0 s i last n0 (v9+1))))) (⟨#[]⟩,0,V)
def quoS(s:Zc)(i:J)(last:J):(Zc×J×Yr):=quoS_L0 s i last ((s.size-Zb (i+1))+1) (i+1)
def quoS_to(s:Zc)(i:J)(last:J)(hs:s.size<=1073741824)(h0:0<=i)(h1:i<s.size):Va1 Ze 281 [(jS s),(jI i),(.av (.val (.int .u8 last)))] [] [] (.av (.tup [(vS ((quoS s i last).1)),(vI ((quoS s i last).2.1)),(vB ((quoS s i last).2.2))])) [] []:=by
 refine D3 (λr:(Zc×J×Yr)=>(.av (.tup [(vS r.1),(vI r.2.1),(vB r.2.2)]))) (quoS s i last) Tryz.func281 kx ?_;refine UF (quoS.eq_1 ..) ?_;refine gO (yq (wrE (i+1) (i+1) kv) m5) ?_;refine LP (λN M S=>∃ v9:J,(0<=v9/\i+1<=v9/\v9<=s.size+1)/\(s.size-Zb v9<N)/\M=quoS_L0 s i last N v9/\S=(sx 43 [(0,(jS s)),(1,(jI i)),(2,(.av (.val (.int .u8 last)))),(9,(jI v9))] [] [])) kx ⟨_,by first|omega|assumption|(simp only[Va6];omega)|(simp;done)|(simp;omega),kv,rfl,rfl⟩ (WK kx) ?_;rintro n0 M S ⟨v9,hv,hF0,rfl,rfl⟩;obtain⟨n0,rfl⟩:∃ k,n0=k+1:=⟨n0-1,kv⟩
 refine UF (quoS_L0.eq_2 ..) ?_;refine gO i7 ?_;refine CSd (λh1p h1=>?_) (λh1p h1=>?_)
 ·have:=Vjc s v9 kv;refine gO (kb h1<|j7 (Vp9 s v9 ky ky ky) m5) ?_;refine CS (λh2=>?_) (λh2=>?_)
  ·refine gO (kb h2<|m6 (wrE (v9+1) (v9+1) kv)<|p8 (wrE ((v9+1)+1) ((v9+1)+1) kv) m5) ?_;exact AG ⟨_,by first|omega|assumption|(simp only[Va6];omega)|(simp;done)|(simp;omega),kv,rfl,rfl⟩ (WK kx) kx (Zh _)
  ·refine gO (kb h2<|p7 (ib s v9 kv) i6) ?_;refine CSe (λh3p h3=>?_) (λh3p h3=>?_)
   ·have:=Vai s (Zb (i+1)) (Zb v9);have:=Vkj (Zd s (Zb (i+1)) (Zb v9));refine gO (kb h3<|p8 (wrE (i+1) (i+1) kv)<|p9 (show 0<=(i+1:J)/\(i+1:J)<=v9/\v9<=((Za s:I):J)from(by first|omega|(simp only[Va6,Xb];omega)))<|kc (Vo9 (Zd s (Zb (i+1)) (Zb v9)) ky)<|m6 (wrE (v9+1) (v9+1) kv) i6) ?_;refine Ir z kx ?_;exact EN kx
   ·refine gO (kb h3<|p7 (ib s v9 kv) j6) ?_;refine CSe (λh4p h4=>?_) (λh4p h4=>?_)
    ·refine gO (kb h4 i6) ?_;refine Ir z kx ?_;exact EN kx
    ·refine gO (kb h4<|m6 (wrE (v9+1) (v9+1) kv) m5) ?_;exact AG ⟨_,by first|omega|assumption|(simp only[Va6];omega)|(simp;done)|(simp;omega),kv,rfl,rfl⟩ (WK kx) kx (Zh _)
 ·refine gO (kb h1 z) ?_;refine Ir i6 kx ?_;exact EN kx
def dstG_L0(s:Zc)(i:J):I->J->J->(Zc×J×Yr)
 |0,_,_=>default
 |n0+1,v7,v8=>Zp (Zf ((v8:J)<((Za s:I):J))) (Zp (Zp (Zp (((Yw s (Zb v8):I):J)==32) Zi (((Yw s (Zb v8):I):J)==10)) Zi (Zp (((Yw s (Zb v8):I):J)==41) ((v7:J)==0) V)) (Zp (Zp ((v8:J)==i) Zi (Zf ((v7:J)>0))) (⟨#[]⟩,0,V) (uneS (Zd s (Zb i) (Zb v8)),v8,Zi)) (Zp (Zf ((Zp (escL s v8) v7 (Zp (((Yw s (Zb v8):I):J)==40) (v7+1) (Zp (((Yw s (Zb v8):I):J)==41) (v7-1) v7)):J)>8)) (⟨#[]⟩,0,V) (dstG_L0 s i n0 (Zp (escL s v8) v7 (Zp (((Yw s (Zb v8):I):J)==40) (v7+1) (Zp (((Yw s (Zb v8):I):J)==41) (v7-1) v7))) ((Zp (escL s v8) (v8+1) v8)+1)))) (Zp (Zp ((v8:J)==i) Zi (Zf ((v7:J)>0))) (⟨#[]⟩,0,V) (uneS (Zd s (Zb i) (Zb v8)),v8,Zi))
def dstG(s:Zc)(i:J):(Zc×J×Yr):=Zp (Zp (Zf ((i:J)<0)) Zi (Zf ((i:J)>=((Za s:I):J)))) (⟨#[]⟩,0,V) (Zp (((Yw s (Zb i):I):J)==60) ((angS s i).1,(angS s i).2.1,(angS s i).2.2) (dstG_L0 s i ((s.size-Zb i)+1) 0 i))
def dstG_to(s:Zc)(i:J)(hs:s.size<=1073741824)(h0:0<=i)(h1:i<=1073741833):Va1 Ze 239 [(jS s),(jI i)] [] [] (.av (.tup [(vS ((dstG s i).1)),(vI ((dstG s i).2.1)),(vB ((dstG s i).2.2))])) [] []:=by
 refine D3 (λr:(Zc×J×Yr)=>(.av (.tup [(vS r.1),(vI r.2.1),(vB r.2.2)]))) (dstG s i) Tryz.func239 kx ?_;refine UF (dstG.eq_1 ..) ?_;refine gO (tn 6<|kj (Zf ((i:J)<0)) z i7 z) ?_;refine CS (λh1=>?_) (λh1=>?_)
 ·refine gO (kb h1 i6) ?_;exact EN kx
 ·obtain⟨h1a,h1o⟩:=Va8 h1;have h1ap:=Zx h1a;have h1op:=Zx h1o;refine gO (kb h1<|p7 (ib s i kv) m5) ?_;refine CSe (λh2p h2=>?_) (λh2p h2=>?_)
  ·refine gO (kb h2<|j7 (angS_to s i ky ky ky) iq) ?_;exact EN kx
  ·refine gO (kb h2 i6) ?_;refine LP (λN M S=>∃ v7:J,∃v8:J,(i<=v8/\v8<=s.size)/\(i-v8<=v7/\v7<=8)/\(s.size-Zb v8<N)/\M=dstG_L0 s i N v7 v8/\S=(sx 83 [(0,(jS s)),(1,(jI i)),(7,(jI v7)),(8,(jI v8))] [] [])) kx ⟨_,_,kv,kv,kv,rfl,rfl⟩ (WK kx) ?_;rintro n0 M S ⟨v7,v8,hv,ho,hF0,rfl,rfl⟩;obtain⟨n0,rfl⟩:∃ k,n0=k+1:=⟨n0-1,kv⟩
   refine UF (dstG_L0.eq_2 ..) ?_;refine gO i7 ?_;refine CSd (λh3p h3=>?_) (λh3p h3=>?_)
   ·refine gO (kb h3<|p7 (ib s v8 kv)<|j8 (((Yw s (Zb v8):I):J)==32) z j6<|m7 (Zp (((Yw s (Zb v8):I):J)==32) Zi (((Yw s (Zb v8):I):J)==10)) z (t7 (((Yw s (Zb v8):I):J)==41) j6 z z) z) ?_;refine CS (λh4=>?_) (λh4=>?_)
    ·refine gO (kb h4 z) ?_;refine Ir (j8 ((v8:J)==i) z j6 z) kx ?_;refine CS (λh5=>?_) (λh5=>?_)
     ·refine gO (kb h5 i6) ?_;exact EN kx
     ·obtain⟨h5a,h5o⟩:=Va8 h5;have h5ap:=Ya h5a;have h5op:=Zx h5o;have:=Vai s (Zb i) (Zb v8);have:=Vkj (Zd s (Zb i) (Zb v8));refine gO (kb h5<|qq (show 0<=(i:J)/\(i:J)<=v8/\v8<=((Za s:I):J)from(by first|omega|(simp only[Va6,Xb];omega)))<|kc (Vo9 (Zd s (Zb i) (Zb v8)) ky) i7) ?_;exact EN kx
    ·obtain⟨h4a,h4o⟩:=Va8 h4;obtain⟨h4aa,h4ao⟩:=Va8 h4a;have h4aap:=Ya h4aa;have h4aop:=Ya h4ao;have:=Vjc s v8 kv;have:=Vgb (escL s v8) v7 (Zp (((Yw s (Zb v8):I):J)==40) (v7+1) (Zp (((Yw s (Zb v8):I):J)==41) (v7-1) v7));have:=Vgb (escL s v8) (v8+1) v8;refine gO (kb h4<|j7 (Vp9 s v8 ky ky ky)<|fq (escL s v8) [7,8] (tn 1<|hn (λh=>by have j0:=h.2;exact(wrE (v8+1) (v8+1) kv)) m5) (tn 3<|ks (((Yw s (Zb v8):I):J)==40) [7] (tn 1<|hn (λh=>by have j0:=h.1.2;have j1:=h.2;have j1p:=eq_of_beq j1;exact(wrE (v7+1) (v7+1) kv)) m5) (tn 3<|ks (((Yw s (Zb v8):I):J)==41) [7] (tn 1<|hn (λh=>by have j0:=h.1.1.2;have j1:=h.1.2;have j1p:=Ya j1;have j2:=h.2;have j2p:=eq_of_beq j2;exact(wrE (v7-1) (v7-1) kv)) m5) z z) z) j6) ?_;refine CSd (λh6p h6=>?_) (λh6p h6=>?_)
     ·refine gO (kb h6 i6) ?_;refine Ir z kx ?_;exact EN kx
     ·refine gO (kb h6<|m6 (wrE ((Zp (escL s v8) (v8+1) v8)+1) ((Zp (escL s v8) (v8+1) v8)+1) kv) m5) ?_;exact AG ⟨_,_,kv,by(refine⟨?_,kv⟩;have hq:=opn_step (escL s v8) (((Yw s (Zb v8):I):J)==40) (((Yw s (Zb v8):I):J)==41) v7 (i-v8) kv;omega),kv,rfl,rfl⟩ (WK kx) kx (Zh _)
   ·refine gO (kb h3 z) ?_;refine Ir (j8 ((v8:J)==i) z j6 z) kx ?_;refine CS (λh7=>?_) (λh7=>?_)
    ·refine gO (kb h7 i6) ?_;exact EN kx
    ·obtain⟨h7a,h7o⟩:=Va8 h7;have h7ap:=Ya h7a;have h7op:=Zx h7o;have:=Vai s (Zb i) (Zb v8);have:=Vkj (Zd s (Zb i) (Zb v8));refine gO (kb h7<|qq (show 0<=(i:J)/\(i:J)<=v8/\v8<=((Za s:I):J)from(by first|omega|(simp only[Va6,Xb];omega)))<|kc (Vo9 (Zd s (Zb i) (Zb v8)) ky) i7) ?_;exact EN kx
def cutM_sz(s:Zc):(cutM s).1.size<=s.size:=by
 unfold cutM ctlM;refine Va5 (λr:Zc×Zc×Yr=>r.1.size<=s.size) (λ_=>?_) (λ_=>Zn _);simp only[Dx];omega
def brkM(s:Zc)(i:J):(Zc×J×Yr):=Zp (Zp (Zf ((i:J)>=((Za s:I):J))) Zi (((Yw s (Zb i):I):J) !=91)) (⟨#[]⟩,0,V) (Zp (Zp (!(cutM (Zd s (Zb (i+1)) (Za s))).2.2) Zi (eqs (lblM ((cutM (Zd s (Zb (i+1)) (Za s))).1)) (⟨#[]⟩))) (⟨#[]⟩,0,V) (lblM ((cutM (Zd s (Zb (i+1)) (Za s))).1),(i+((Za ((cutM (Zd s (Zb (i+1)) (Za s))).1):I):J))+2,Zi))
def brkM_to(s:Zc)(i:J)(hs:s.size<=100000000)(h0:0<=i)(h1:i<=1073741833):Va1 Ze 237 [(jS s),(jI i)] [] [] (.av (.tup [(vS ((brkM s i).1)),(vI ((brkM s i).2.1)),(vB ((brkM s i).2.2))])) [] []:=by
 refine D3 (λr:(Zc×J×Yr)=>(.av (.tup [(vS r.1),(vI r.2.1),(vB r.2.2)]))) (brkM s i) Tryz.func237 kx ?_;refine UF (brkM.eq_1 ..) ?_;refine gO (tn 8<|kj (Zf ((i:J)>=((Za s:I):J))) z (m9 (λh=>by have j0:=h.2;have j0p:=Zx j0;exact(ib s i kv)) m5) z) ?_;refine CS (λh1=>?_) (λh1=>?_)
 ·refine gO (kb h1 i6) ?_;exact EN kx
 ·obtain⟨h1a,h1o⟩:=Va8 h1;have h1ap:=Zx h1a;have h1op:=Va7 h1o;have:=Vai s (Zb (i+1)) (Za s);have:=cutM_sz (Zd s (Zb (i+1)) (Za s));have:=lblM_sz ((cutM (Zd s (Zb (i+1)) (Za s))).1);refine gO (kb h1<|p8 (wrE (i+1) (i+1) kv)<|kp (show 0<=(i+1:J)/\(i+1:J)<=((Za s:I):J)/\((Za s:I):J)<=((Za s:I):J)from(by first|omega|(simp only[Va6,Xb];omega)))<|kc (cutM_to (Zd s (Zb (i+1)) (Za s)) ky)<|tn 8<|kc (lblM_to ((cutM (Zd s (Zb (i+1)) (Za s))).1) ky)<|j8 (!(cutM (Zd s (Zb (i+1)) (Za s))).2.2) z j6 z) ?_;refine CS (λh2=>?_) (λh2=>?_)
  ·refine gO (kb h2 i6) ?_;exact EN kx
  ·obtain⟨h2a,h2o⟩:=Va8 h2;have h2an:=notf h2a;have h2oz:=Veh h2o;refine gO (kb h2<|yq (wrE (i+((Za ((cutM (Zd s (Zb (i+1)) (Za s))).1):I):J)) (i+((Za ((cutM (Zd s (Zb (i+1)) (Za s))).1):I):J)) kv)<|kn (wrE ((i+((Za ((cutM (Zd s (Zb (i+1)) (Za s))).1):I):J))+2) ((i+((Za ((cutM (Zd s (Zb (i+1)) (Za s))).1):I):J))+2) kv) i6) ?_;exact EN kx
def BYi(s:Zc)(i:J):Int:=((Yw s (Zb i):I):J)
def e0:ByteArray:=⟨#[]⟩
def ib(s:Zc)(i:J)(h:0<=i/\i<(s.size:J)):0<=i/\i<((Za s:I):J):=h
def titM(s:Zc)(i:J):Zc×J×Bool:=Zp (BYi s i==34) (quoS s i 34) (Zp (BYi s i==39) (quoS s i 39) (e0,0,V))
def tiL:F AV:=[b8 34,b8 34,b8 39,b8 39]
def tiS(s:Zc)(i k:J):St:=sx 38 [(0,jS s),(1,jI i),(19,.av (.agg tiL)),(20,jI k)] [] []
def titM_to(s:Zc)(i:J)(hs:s.size<=1073741824)(h0:0<=i)(h1:i<s.size):Va1 Ze 240 [jS s,jI i] [] [] (.av (.tup [vS (titM s i).1,vI (titM s i).2.1,vB (titM s i).2.2])) [] []:=by
 have d1:Zf (i<0)=false:=Yj kv;have d2:Zf (i>=((Za s:I):J))=false:=Yj kv;have a0:0<=(0:J)/\(0:J)<(2:I)/\(0:J).toNat*2+2<=tiL.length/\0<2:=gj;have a1:0<=(1:J)/\(1:J)<(2:I)/\(1:J).toNat*2+2<=tiL.length/\0<2:=gj;have hi:=ib s i ⟨h0,h1⟩;have c0:0<=(0:J)/\(0:J)<((2:I):J):=gj;have c1:0<=(1:J)/\(1:J)<((2:I):J):=gj;have w0:=wrE ((0:J)+1) 1 kv;have w1:=wrE ((1:J)+1) 2 kv;refine D3 (λr:Zc×J×Yr=>.av (.tup [vS r.1,vI r.2.1,vB r.2.2])) (titM s i) Tryz.func240 kx ?_;refine UF (titM.eq_1 ..) ?_;refine gO (zq d1<|m0 d1<|m0 d1<|m0 d1<|m0 d1<|kb d2 i7) ?_;refine UN (tiS s i 0) 3 kx (WK kx) ?_;refine gO (m0 tt<|kp a0 j6) ?_;refine D4 (p7 hi<|kp c0 j6) kx kx kx ?_;refine CS (λq0=>?_) (λq0=>?_)
 ·have hq:=quoS_to s i 34 hs h0 h1;refine gO (kb q0<|p7 c1<|n7 hq iq) ?_;refine UO z kx ?_;exact EN kx
 ·refine gO (kb q0<|kn w0 m5) ?_;refine UA (tiS s i 1) kx (WK kx) ?_;refine gO (m0 tt<|kp a1 j6) ?_;refine D4 (p7 hi<|kp c0 j6) kx kx kx ?_;refine CS (λq1=>?_) (λq1=>?_)
  ·have hq:=quoS_to s i 39 hs h0 h1;refine gO (kb q1<|p7 c1<|n7 hq iq) ?_;refine UO z kx ?_;exact EN kx
  ·refine gO (kb q1<|kn w1 m5) ?_;refine UA (tiS s i 2) kx (WK kx) ?_;refine gO (m0 ff z) ?_;refine UO i6 kx ?_;exact EN kx
end
section
open Go Go.Eng Go.RowKit
def extra155:Builder.Extra Ze Tryz.lays155_ren where
 sizeBuilder:=kx
 liesBuilder:=kx
 t5:=Jp
 a5:=Dy
 z5:=Do
 v5:=J0
 infoByte:=kx
 cellsByte:=kx
 sizeByte:=kx
 neB5:=gj
def glM(m:J):I×ABox:=(1998,.gl 2 [.int .i64 m])
def LF1:ByteArray:=⟨#[10]⟩
def SP1:ByteArray:=⟨#[32]⟩
def rplM(s:Zc):ByteArray:=⟨(Ik s.data.toList [10] [32]).toArray⟩
def idx1_lt:∀(l:F Ql),Qe l [10]= -1\/(0<=Qe l [10]/\Qe l [10]<l.length)
 |[]=>.inl rfl
 | b::l=>by
  have h:=idx1_lt l;simp only[Qe]
  split
  ·right;simp only[Xi];omega
  ·split
   ·exact .inl rfl
   ·rename_i h2;have h2:Qe l [10]≠ -1:=by simpa using h2
    right;simp only[Xi];omega
def rplK_len:∀(k:I)(l:F Ql),(Du [10] [32] k l).length<=l.length
 |0,l=>Zn _
 | k+1,l=>by
  have h:=idx1_lt l;rw[Du]
  split
  ·exact Zn _
  ·rename_i h2;have h2:Qe l [10]≠ -1:=by simpa using h2
   have ih:=rplK_len k (l.drop ((Qe l [10]).toNat+[(10:Ql)].length));simp only[List.length_drop,List.length_append,Jv,Xi,Ib]at ih ⊢;omega
def rplM_sz(s:Zc):(rplM s).size<=s.size:=by
 show(Ik s.data.toList [10] [32]).toArray.size<=_;rw[Jl];unfold Ik Lib.replace;rw[Z3 gj];exact Jk (rplK_len _ _) ku
def args3S{G:Gh}{w:Xc}{s t r:Zc}{us:F Xx}(h:Xs G w [jS s,jS t,jS r] us):us.toArray=#[.string s,.string t,.string r]:=by
 obtain⟨u,l,rfl,h1,u2,l2,rfl,h3,u3,l3,rfl,h5,h6⟩:=h;have h7:l3=[]:=h6;subst h7;rw[h1.1,h3.1,h5.1]
def rplM_to(s:Zc)(m:J)(hs:s.size<=1073741824):Va1 Ze 231 [jS s,jS LF1,jS SP1] [glM m] [] (jS (rplM s)) [glM m] []:=by
 refine⟨⟨Tryz.f231,Tryz.func231,kx,kx⟩,λG w us hw hr hbx _=>?_⟩;rw[args3S hr];obtain⟨e,mm,ho,hh⟩:=hbx (glM m) ku;have hm:w.cell? ⟨2,0,Zw⟩=H (.int .i64 m):=by simp only[Jy,hh];rfl
 have hc:=Lib.countB_mul_le LF1 gj s.size s (Zn _);have e1:LF1.size=1:=rfl;have e2:SP1.size=1:=rfl;rw[e1]at hc;refine(Any.strings_ReplaceAll Tryz.lays155 extra155 s LF1 SP1 m w kv hm gj (by rw[e2];omega)).mono ?_;rintro e w' ⟨rfl,hb⟩;obtain⟨s1,s2,s3⟩:=Vc9 hw hb;refine⟨_,G,rfl,s1,s2,⟨rfl,rfl⟩,λp hp=>?_,λi _=>s3 _,λ_ _=>rfl,λκ=>rfl⟩;exact(hbx p hp).persist s1.toExt (s3 _) (λ_ _=>rfl)
def hsxB(s p:Zc):Bool:=Lib.hasSuffix s.data.toList p.data.toList
def hsxB_to(s p:Zc)(hs:s.size<=1073741824):Va1 Ze 232 [jS s,jS p] [] [] (jB (hsxB s p)) [] []:=by
 refine Vcu ⟨Tryz.f232,Tryz.func232,kx,kx⟩ (λG w us h=>Vrz h) (λG w=>⟨rfl,rfl⟩) (λw=>?_);refine(Any.strings_HasSuffix Tryz.lays100 s p w kv).mono λe w' ⟨he,hw⟩=>⟨he,by rw[hw];exact Below.refl _ _⟩
def codK(t:Zc):Bool:=Zp (Zp (hpxB t SP1) (hsxB t SP1) V) (!eqs (trmB t SP1) e0) V
def codC(s:Zc):ByteArray:=Zp (codK (rplM s)) (Zd (rplM s) (Zb 1) (Zb (((Za (rplM s):I):J)-1))) (rplM s)
def codC_sz(s:Zc):(codC s).size<=s.size:=by
 have h:=rplM_sz s;unfold codC;exact Va5 (λr:Zc=>r.size<=s.size) (λ_=>by rw[Vai];omega) (λ_=>h)
def trm_two{t:Zc}(h:eqs (trmB t SP1) e0=V)(hp:hpxB t SP1=Zi)(hs:hsxB t SP1=Zi):2<=t.size:=by
 have e:t.size=t.data.toList.length:=ku;have ht:t=⟨t.data.toList.toArray⟩:=ku;rcases hl:t.data.toList with _|⟨b,_|⟨b2,l⟩⟩
 ·unfold hpxB Df at hp;rw[hl]at hp;exact Yq hp gj
 ·unfold hpxB Df at hp;rw[hl]at hp;have hb:b=32:=by
   have:([32]:F Ql).isPrefixOf [b]=true:=hp;simp[List.isPrefixOf]at this;exact this.symm
  subst hb;rw[hl]at ht;rw[ht]at h;have h9:eqs (trmB ⟨([32]:F Ql).toArray⟩ SP1) e0=true:=kx;rw[h9]at h;cases h
 ·rw[e,hl];simp
def codC_to(s:Zc)(m:J)(hs:s.size<=1073741824):Va1 Ze 186 [jS s] [glM m] [] (jS (codC s)) [glM m] []:=by
 have k1:=rplM_to s m hs;have hz:=rplM_sz s;unfold codC;generalize rplM s=t at k1 hz ⊢;have k2:=Vcj t SP1;have k3:=hsxB_to t SP1 kv;have k4:=Vin t SP1 kv gj (A7.lit gj);unfold codK;refine bGs Tryz.func186 ?_;cases c1:hpxB t SP1 with
 |false=>
  simp only[Z2];refine gO (o8 k1 Zt<|j7 k2<|m0 c1<|kb c1<|kb c1<|m0 (b:=V) (d:=V) rfl<|kb (b:=V) (d:=V) rfl<|kb (b:=V) (d:=V) rfl<|kb (b:=V) (d:=V) rfl<|kb (b:=V) (d:=V) rfl j6) ?_;exact eNs
 | true=>
  cases c2:hsxB t SP1 with
  |false=>
   simp only[Z2,Z1];refine gO (o8 k1 Zt<|j7 k2<|m0 c1<|m0 c1<|kc k3<|kb c1<|m0 c2<|kb c2<|kb c2<|kb c2<|kb (b:=V) (d:=V) rfl j6) ?_;exact eNs
  | true=>
   cases c3:eqs (trmB t SP1) e0 with
   |true=>
    simp only[Z1,Bool.not_true,Z2];refine gO (o8 k1 Zt<|j7 k2<|m0 c1<|m0 c1<|kc k3<|kb c1<|m0 c2<|m0 c2<|kc k4<|kb c2<|m0 c2<|kb (b:= !eqs (trmB t SP1) e0) (d:=V) (by rw[c3];rfl) j6) ?_;exact eNs
   |false=>
    simp only[Z1,Bool.not_false];have h2:=trm_two c3 c1 c2;have w1:=wrE (((Za t:I):J)-1) (((Za t:I):J)-1) kv;have hsl:0<=(1:J)/\(1:J)<=((Za t:I):J)-1/\((Za t:I):J)-1<=((Za t:I):J):=⟨gj,kv,kv⟩
    refine gO (o8 k1 Zt<|j7 k2<|m0 c1<|m0 c1<|kc k3<|kb c1<|m0 c2<|m0 c2<|kc k4<|kb c2<|m0 c2<|kb (b:= !eqs (trmB t SP1) e0) (d:=Zi) (by rw[c3];rfl)<|t8 w1<|kp hsl m5) ?_;exact eNs
def extra105:Builder.Extra Ze Tryz.lays105_ren where
 sizeBuilder:=kx
 liesBuilder:=kx
 t5:=Jp
 a5:=Dy
 z5:=Do
 v5:=J0
 infoByte:=kx
 cellsByte:=kx
 sizeByte:=kx
 neB5:=gj
def repB(s:Zc)(n:I):ByteArray:=⟨(D0 s.data.toList n).toArray⟩
def repB_sz(s:Zc)(n:I):(repB s n).size=n*s.size:=by
 show(D0 s.data.toList n).toArray.size=_;rw[Jl,Lib.repeatL_length];simp
def argsSI{G:Gh}{w:Xc}{s:Zc}{n:J}{us:F Xx}(h:Xs G w [jS s,jI n] us):us.toArray=#[.string s,.int .i64 n]:=by
 obtain⟨u,l,rfl,h1,u2,l2,rfl,h3,h4⟩:=h;have h5:l2=[]:=h4;subst h5;rw[h1.1,h3.1]
def repB_to(s:Zc)(n:I)(hn:n<=1073741824)(hs:s.size<=1024):Va1 Ze 203 [jS s,jI ((n:I):J)] [] [] (jS (repB s n)) [] []:=by
 refine Vcu ⟨Tryz.f203,Tryz.func203,kx,kx⟩ (λG w us h=>argsSI h) (λG w=>⟨rfl,rfl⟩) (λw=>?_);refine(Any.strings_Repeat Tryz.lays105 extra105 s n w kv ?_).mono λe w' ⟨he,hw⟩=>⟨he,hw⟩
 calc s.size*n<=1024*1073741824:=Nat.mul_le_mul hs hn
  _<=140737488355328:=gj
end
section
open Go Go.Eng
def CallTo_args{P:Ye}{f:I8}{args args':F SV}{bx:F (I×Xa)}{gn:F (Qz×I)}{res:SV}{bx':F (I×Xa)}{gn':F (Qz×I)}(h:Va1 P f args bx gn res bx' gn')(hm:∀ G w vs,Xs G w args' vs->Xs G w args vs):Va1 P f args' bx gn res bx' gn':=
 ⟨h.1,λG w vs hw hr hb hg=>h.2 G w vs hw (hm G w vs hr) hb hg⟩
def kOut:Key:=(1002,43)
def btB(g:I)(out:F Y5):I×ABox:=(1001,.cells 24 [.own kOut g 10 (out.map Va2)])
def btR(ps:F Zq)(els:F Ym)(O:Ops)(prs:F AV):F (I×Xa):=(1003,.cells 183 [.ptr 1000 0])::stB ps els O prs
def btX(g:I)(out:F Y5)(ps:F Zq)(els:F Ym)(O:Ops)(prs:F AV):F (I×Xa):=btB g out::btR ps els O prs
section
variable (ps:F Zq) (els:F Ym) (O:Ops) (prs:F AV)
def bcS(g:I)(out:F Y5)(e:Ym):St:=sx 29 [(2,.ptr 1001 0),(3,.ptr 3 0)] ((3,.cells 230 (sEm e))::btX g out ps els O prs) [(kOut,g)]
noncomputable def B4:Yp Oper:=(Vqm 4 (Vbf Tryz.f202)).getD #[]
noncomputable def q4(i:I):Oper:=B4.getD i (B4.getD 0 default)
def inl0:AV:=.agg [vI 0,vS ⟨#[]⟩,vS ⟨#[]⟩,vS ⟨#[]⟩,vS ⟨#[]⟩,.sl [],.sl [],.sl [],.sl [],.sl []]
def vb4(g:I)(out:F Y5)(e:Ym)(i:I):SV:=match i with
 |0=>.own kOut g 10 (out.map Va2)
 |1=>.ptr 3 0
 |2=>.av (Vaq e.fin)
 |3=>.av (.val (.int .i64 (out.map Va2).length))
 |_=>.av (.sl [inl0])
def u42:Vbe Ze 24=H 42:=kx
def i42:Van Ze 42=H (10,192,H (.agg #[.int .i64 0,.string ⟨#[]⟩,.string ⟨#[]⟩,.string ⟨#[]⟩,.string ⟨#[]⟩,.slice Zw 0 0,.slice Zw 0 0,.slice Zw 0 0,.slice Zw 0 0,.slice Zw 0 0])):=kx
def uniI(x:Y5):D8 10 [Vaq x]:=by
 intro y hy;simp only[Zl,Zs,Yf]at hy;subst hy;exact⟨rfl,rfl⟩
def uni0:D8 10 [inl0]:=by
 intro y hy;simp only[Zl,Zs,Yf]at hy;subst hy;exact⟨rfl,rfl⟩
def bc4(g:I)(out:F Y5)(e:Ym)(hn:out.length<=1073741824):W Ze (.region 4 B4 Zi) (λx S1=>x=.normal/\Xu S1 (sx 29 [] (btX (g+1) (out++[e.fin]) ps els O prs) [(kOut,g+1)])) (bcS ps els O prs g out e):=by
 have hl4:(bcS ps els O prs g out e).fr.length=29:=kx;refine W_head (Sc:=(((((bcS ps els O prs g out e).put (H 22) (vb4 g out e 0)).put (H 23) (vb4 g out e 1)).put (H 24) (vb4 g out e 2)).put (H 25) (vb4 g out e 3)).put (H 26) (vb4 g out e 4)) kx 5 (vb4 g out e) (λi=>22+i) kx ?_ (λi j _ _ h=>by omega) (λi hi=>by rw[hl4];omega) ?_ rfl rfl ?_ ?_ ?_
 ·intro i hi
  match i,hi with
  |0,_=>exact⟨q4 0,kx,kx,kx⟩
  |1,_=>exact⟨q4 1,kx,kx,kx⟩
  |2,_=>exact⟨q4 2,kx,kx,kx⟩
  |3,_=>exact⟨q4 3,kx,kx,kx⟩
  |4,_=>exact⟨q4 4,kx,kx,kx⟩
  |i+5,h=>exact Yq h kv
 ·intro i hi o ho S' hb hg hlen hdep hoth;have hget:∀(t:I)(s:SV),(∀j,j<5->t≠22+j)->(bcS ps els O prs g out e).fr[t]? =H s->S'.ev (.tmp t)=s:=by
   intro t s h1 h2;have:=hoth t h1;simp only[Fe,Z6,this,h2,Y7]
  have e2:S'.ev (.tmp 2)=.ptr 1001 0:=hget 2 _ (λj _=>by omega) kx;have e3:S'.ev (.tmp 3)=.ptr 3 0:=hget 3 _ (λj _=>by omega) kx;have b1:S'.bx.lookup 1001=H (.cells 24 [.own kOut g 10 (out.map Va2)]):=by rw[hb];kernel_rfl
  have b3:S'.bx.lookup 3=H (.cells 230 (sEm e)):=by rw[hb];kernel_rfl
  match i,hi with
  |0,_=>
   obtain rfl:q4 0=o:=Ys ((show B4[0]? =H (q4 0) by kernel_rfl).symm.trans ho);exact⟨Y6,Zt,st_load (t:=24) (x:=.tmp 2) kx e2 kx b1 rfl⟩
  |1,_=>
   obtain rfl:q4 1=o:=Ys ((show B4[1]? =H (q4 1) by kernel_rfl).symm.trans ho);refine⟨Y6,Zt,?_⟩;unfold Vb8;rw[show(q4 1).op=.fieldAddr 230 (.tmp 3) 0 by kernel_rfl];simp only[e3];unfold Vjt;rw[show Vkl Ze 230 0=H (0,42) by kernel_rfl];rfl
  | 2,_=>
   obtain rfl:q4 2=o:=Ys ((show B4[2]? =H (q4 2) by kernel_rfl).symm.trans ho);have e23:S'.ev (.tmp 23)=.ptr 3 0:=by
    have this:S'.fr[23]? =H (.ptr 3 0):=hdep ⟨1,.data⟩ (by show _∈(q4 2).after;rw[show(q4 2).after=#[⟨1,.data⟩] by kernel_rfl];simp) rfl gj;simp only[Fe,Z6,this,Y7]
   exact⟨Y6,Zt,st_load_agg (t:=42) (x:=.tmp 23) kx e23 kx i42 b3 kx kx kx⟩
  | 3,_=>
   obtain rfl:q4 3=o:=Ys ((show B4[3]? =H (q4 3) by kernel_rfl).symm.trans ho);have e22:S'.ev (.tmp 22)=.own kOut g 10 (out.map Va2):=by
    have this:S'.fr[22]? =H (.own kOut g 10 (out.map Va2)):=hdep ⟨0,.data⟩ (by show _∈(q4 3).after;rw[show(q4 3).after=#[⟨0,.data⟩] by kernel_rfl];simp) rfl gj;simp only[Fe,Z6,this,Y7]
   exact⟨Y6,Zt,st_len (t:=24) (x:=.tmp 22) kx e22 kx⟩
  |4,_=>
   obtain rfl:q4 4=o:=Ys ((show B4[4]? =H (q4 4) by kernel_rfl).symm.trans ho);exact⟨D8 10 [inl0],uni0,st_build (t:=24) (c:=.agg #[.int .i64 0,.string ⟨#[]⟩,.string ⟨#[]⟩,.string ⟨#[]⟩,.string ⟨#[]⟩,.slice Zw 0 0,.slice Zw 0 0,.slice Zw 0 0,.slice Zw 0 0,.slice Zw 0 0]) kx u42 i42 kx gj gj⟩
  |i+5,h=>exact Yq h kv
 ·intro j hj
  match j,hj with
  |0,_=>rfl
  |1,_=>rfl
  |2,_=>rfl
  |3,_=>rfl
  |4,_=>rfl
  |j+5,h=>exact Yq h kv
 ·intro t ht;simp only[Xv,Yh];rw[Z3 (λe=>ht 4 kv e.symm),Z3 (λe=>ht 3 kv e.symm),Z3 (λe=>ht 2 kv e.symm),Z3 (λe=>ht 1 kv e.symm),Z3 (λe=>ht 0 kv e.symm)]
 ·refine WA_push (n:=5) (o4:=q4 5) (o5:=q4 6) (o6:=q4 7) (o7:=q4 8) (t:=24) (e:=42) (T:=42) (T7:=24) (ty:=24) (sz:=10) (k:=kOut) (g:=g) (d4:=27) (d5:=28) (p1:=2) (bid:=1001) (s0:=.own kOut g 10 (out.map Va2)) (bt7:=24) (z7:=H (.slice Zw 0 0)) (l:=out.map Va2) (x0:=inl0) (x:=Vaq e.fin) (A:=.tmp 22) (B:=.tmp 26) (C:=.tmp 25) (X:=.tmp 24)
   kx kx kx kx kx kx kx kx kx kx kx kx kx kx kx kx kx
   kx kx kx kx kx kx (by intro h;cases h) (by intro h;cases h) (by intro h;cases h) gj gj gj (Zr kx) (Zr kx)
   u42 kx i42 i42 kx kx gj rfl kx uni0 (uniI _) (by rw[J6];omega) ?_
  refine⟨rfl,?_⟩;rw[show out.map Va2++[Vaq e.fin]=(out++[e.fin]).map Va2 by simp[Vbw];rfl];exact WK kx
def Vp1{bx':F (I×Xa)}{l:F (I×Xa)}(h:bx'.map (λp=>l.lookup p.1)=bx'.map (λp=>H p.2)):∀ p∈bx',l.lookup p.1=H p.2:=λp hp=>Y4.1 h p hp
def gen_all{gn':F (Qz×I)}{S:St}(h:gn'.map (λp=>S.gen p.1)=gn'.map (·.2)):∀ p∈gn',S.gen p.1=p.2:=λp hp=>Y4.1 h p hp
def txI(t:Zc):DInline:=Xo 1 t ⟨#[]⟩ ⟨#[]⟩ ⟨⟨#[]⟩,[],[]⟩ [] [] []
def runC(e:Ym):ByteArray:=(el ps e.fpiece.toNat).fChar
def runT(e:Ym):DInline:=Zp e.frun (txI (repB (runC ps e) e.fleft.toNat)) e.fin
def btc_to(g:I)(out:F Y5)(e:Ym)(hn:out.length<=1073741824)(hr:e.frun=Zi->(0<=e.fpiece/\e.fpiece<ps.length)/\(runC ps e).size<=1024/\0<=e.fleft/\e.fleft<=1073741824):
  Va1 Ze 202 [.av (cEm e),.ptr 1003 0,.ptr 1001 0] (btX g out ps els O prs) [(kOut,g)] Vav (btX (g+1) (out++[runT ps e]) ps els O prs) [(kOut,g+1)]:=by
 have hbx:∀(g:I)(out:F Y5),∀p∈btX g out ps els O prs,∀s∈p.2.svs,Qu ((btX g out ps els O prs).map (·.1)) [(kOut,g)] s:=by
  intro g out p hp s hs;rcases Zl.1 hp with rfl|hp
  ·simp only[btB,ABox.svs,Zl,Zs,Yf]at hs;subst hs;simp[Qu,Qa]
  ·exact Vgv (show okB ((btX g out ps els O prs).map (·.1)) [(kOut,g)] (btR ps els O prs)=Zi by kernel_rfl) p hp s hs
 refine Ff (λ_:Je=>Vav) () Tryz.func202 kx (λp hp=>Zr (Zj.1 (show(btX g out ps els O prs).all (λp=>decide (1000<=p.1))=Zi by kernel_rfl) p hp)) (by simp[kOut]) (λs hs=>Vd1 (Zj.1 (show([.av (cEm e),.ptr 1003 0,.ptr 1001 0]:F SV).all (okSb ((btX g out ps els O prs).map (·.1)) [(kOut,g)])=Zi by kernel_rfl) s hs)) (hbx g out) (by simp[Qu,Xq,Vav]) (hbx (g+1) (out++[runT ps e])) rfl rfl ?_ (λp hp=>by
  have:=Zj.1 (show(btX (g+1) (out++[runT ps e]) ps els O prs).all (λp=>decide (p.1<2000)||(Vbb (btX (g+1) (out++[runT ps e]) ps els O prs)).contains p.1)=Zi by kernel_rfl) p hp
  simpa using this)
 cases hrun:e.frun with
 |false=>
  have hT:runT ps e=e.fin:=by unfold runT;rw[hrun];rfl
  rw[hT];refine gO (w7 hrun z) ?_;refine Jo (sx 29 [] (btX (g+1) (out++[e.fin]) ps els O prs) [(kOut,g+1)]) z kx ?_ kx ?_
  ·refine Vaj (S':=bcS ps els O prs g out e) (WK kx) ?_;exact Val (c':=.region 4 B4 Zi) kx (bc4 ps els O prs g out e hn)
  exact ENb kx (Vp1 kx) (gen_all kx)
 | true=>
  obtain⟨h1,h2,h3,h4⟩:=hr hrun;have hep:=Vje ps e.fpiece h1.1 h1.2;have hrep:=repB_to (runC ps e) e.fleft.toNat kv h2;rw[Int.toNat_of_nonneg h3]at hrep;obtain⟨e',he'⟩:∃ e':Ym,e'={e with fin:=txI (repB (runC ps e) e.fleft.toNat)}:=⟨_,rfl⟩
  have hT:runT ps e=e'.fin:=by unfold runT;rw[hrun,he'];rfl
  rw[hT];refine gO (w7 hrun z) ?_;refine D4 (tn 6<|ke hep<|eq hrep i6) kx kx kx ?_;refine Jo (sx 29 [] (btX (g+1) (out++[e'.fin]) ps els O prs) [(kOut,g+1)]) z kx ?_ kx ?_
  ·refine Vaj (S':=bcS ps els O prs g out e') (WK ?_) ?_
   ·rw[he'];kernel_rfl
   exact Val (c':=.region 4 B4 Zi) kx (bc4 ps els O prs g out e' hn)
  exact ENb kx (Vp1 kx) (gen_all kx)
end
end
section
open Go Go.Eng
def dT{p:Prop}[Decidable p](h:p):Zf p=true:=Z5 h
def dF{p:Prop}[Decidable p](h:¬ p):Zf p=false:=Yj h
def kO:Key:=(7,43)
def sO(κ:Qz):Key:=if κ=(1001,0)then(7,0)else if κ=(7,0)then(1001,0)else if κ=kOut then kO else if κ=kO then kOut else κ
def sO_inv:Inv sO:=by
 refine⟨λκ=>?_,λκ=>?_⟩
 ·unfold sO
  by_cases h1:κ=(1001,0)
  ·subst h1;decide
  by_cases h2:κ=(7,0)
  ·subst h2;decide
  by_cases h3:κ=kOut
  ·subst h3;decide
  by_cases h4:κ=kO
  ·subst h4;decide
  simp only[h1,h2,h3,h4,Ja]
 ·unfold sO
  repeat' split
  all_goals first|rfl|(rename_i h;rw[h];rfl)|(subst_vars;rfl)
section
variable (ps:F Zq) (els:F Ym) (O:Ops) (prs:F AV)
def bwB(g:I)(out:F Y5):F (I×Xa):=(7,.cells 24 [.own kO g 10 (out.map Va2)])::(3,.cells 183 [.ptr 1000 0])::stB ps els O prs
def RunOk(e:Ym):Prop:=e.frun=Zi->(0<=e.fpiece/\e.fpiece<ps.length)/\(runC ps e).size<=1024/\0<=e.fleft/\e.fleft<=1073741824
def btcL_to(g:I)(out:F Y5)(e:Ym)(hn:out.length<=1073741824)(hr:RunOk ps e):Va1 Ze 202 [.av (cEm e),.ptr 3 0,.ptr 7 0] (bwB ps els O prs g out) [(kO,g)] Vav (bwB ps els O prs (g+1) (out++[runT ps e])) [(kO,g+1)]:=
 Vcz kx (Vac (Vah (3,0) (1003,0) rfl) (Vac sO_inv (btc_to ps els O prs g out e hn hr)))
def bwS(c:J)(g:I)(out:F Y5)(k:J):St:=sx 40 [(2,jI c),(3,.ptr 3 0),(7,.ptr 7 0),(8,.fn 202 [] [.ptr 3 0,.ptr 7 0]),(9,jI k)] (bwB ps els O prs g out) [(kO,g)]
def btM(c:J):I->J->F Y5
 |0,_=>[]
 |n+1,k=>Zp (k !=c) (runT ps (el els k.toNat)::btM c n (el els k.toNat).fnext) []
def BtOk(c:J):I->J->Prop
 |0,k=>k=c
 |n+1,k=>k≠c->Ix els k/\RunOk ps (el els k.toNat)/\BtOk c n (el els k.toNat).fnext
def bw_to(o c:J)(n:I)(ho:Ix els o)(hB:BtOk ps els c n (el els o.toNat).fnext)(hn:n<=1073741824):Va1 Ze 148 [.ptr 1000 0,jI o,jI c] (stB ps els O prs) [] (jL ((btM ps els c n (el els o.toNat).fnext).map Va2)) (stB ps els O prs) []:=by
 have he0:=Vck els o ho.1 ho.2;refine bGs Tryz.func148 ?_;refine gO (kq 3 n8) ?_;refine RT [(7,0,.own kO 0 10 (([]:F Y5).map Va2))] (ac (show([]:F AV)=[]/\0<43/\(0:I)=0 from⟨rfl,gj,rfl⟩) an) kx ?_;refine gO (gq ho<|bq he0 m5) ?_;refine LP (n:=n+1) (λN M S=>∃(m v:I)(out:F Y5)(k:J),m+v=n/\out.length=v/\BtOk ps els c m k/\out++btM ps els c m k=btM ps els c n (el els o.toNat).fnext/\m<N/\M=()/\S=bwS ps els O prs c v out k) kx ⟨n,0,[],_,kv,rfl,hB,rfl,kv,rfl,rfl⟩ (WK kx) ?_;rintro n0 M S ⟨m,v,out,k,hmv,hov,hk,hm,hF0,rfl,rfl⟩;obtain⟨n0,rfl⟩:∃ k,n0=k+1:=⟨n0-1,kv⟩
 by_cases h1:k=c
 ·have hd:(k !=c)=false:=by rw[h1];exact I0 ..
  have hbt:btM ps els c m k=[]:=by
   cases m with
   |zero=>rfl
   |succ m=>unfold btM;rw[hd];rfl
  rw[hbt,J7]at hm;rw[<-hm];refine gO (w7 hd z) ?_;refine Ir j6 kx ?_;exact eNs
 ·have hd:(k !=c)=true:=by rw[I1];exact h1
  cases m with
  |zero=>exact Yq hk h1
  | succ m=>
   obtain⟨hi,hr,hb⟩:=hk h1;have hev:=Vck els k hi.1 hi.2;have hc:=btcL_to ps els O prs v out (el els k.toNat) kv hr;have hbt:btM ps els c (m+1) k=runT ps (el els k.toNat)::btM ps els c m (el els k.toNat).fnext:=by
    show Zp _ _ _=_;rw[hd];rfl
   rw[hbt]at hm;refine gO (w7 hd<|nq hi<|ke hev<|kg hc (show v=v/\Y6 from⟨rfl,Zt⟩)<|gq hi<|bq hev m5) ?_;exact AG (m:=n0) ⟨m,v+1,out++[runT ps (el els k.toNat)],(el els k.toNat).fnext,kv,by simp;omega,hb,by rw[Xf];exact hm,kv,rfl,rfl⟩ (WK kx) kx (Zh _)
end
end
end Go.Proofs.YthbpjmogdonlkaaGreatDoor
namespace Go.Eng
variable {P:Ye}
def Vp6(i:I):De->Qt (De×De)
 | .seq x y=>match x with
  | .region j _ _=>match j==i with
   |true=>H (x,y)
   |false=>Vp6 i y
  |_=>match Vp6 i x with
   |some r=>H r
   |none=>Vp6 i y
 | .block _ c=>Vp6 i c
 | .loop c=>Vp6 i c
 | .scope c=>Vp6 i c
 | .cond _ x y=>match Vp6 i x with
  |some r=>H r
  |none=>Vp6 i y
 |_=>Zw
def headR:De->Qt I
 | .seq x _=>headR x
 | .block _ c=>headR c
 | .scope c=>headR c
 | .region j _ _=>H j
 |_=>Zw
def Vr4(i:I):De->Qt De
 | .seq x y=>match Vr4 i x with
  |some r=>H r
  |none=>Vr4 i y
 | .block _ c=>Vr4 i c
 | .scope c=>Vr4 i c
 | .loop c=>match headR c==H i with
  |true=>H (.loop c)
  |false=>Vr4 i c
 | .cond _ x y=>match Vr4 i x with
  |some r=>H r
  |none=>Vr4 i y
 |_=>Zw
def startL(i:I)(c:De)(ks:F Fm)(S:St):Cf:=match Vr4 i c with
 |some x=>H ([],[],.at x ks S)
 |none=>Zw
def startR(i:I)(c:De)(S:St):Cf:=match Vp6 i c with
 |some (x,y)=>H ([],[],.at x [.sq y] S)
 |none=>Zw
def cutX(X:Cf)(n:I)(S:St):Cf:=match X with
 |some (_,_,.at c ks _)=>H ([],[],.at c (ks.take n) S)
 |_=>Zw
def contE(P:Ye)(X:Cf)(n:I)(e:Qj)(S:St)(ors:F Oq):Cf:=match X with
 |some (_,_,.at _ ks _)=>goK P (ks.drop n) (H ([],ors,.fin e S))
 |_=>Zw
def W_weakE{c:De}{Q:Qj->St->Prop}{S:St}(h:W P c (λe S1=>∃ S2,Xu S1 S2/\Q e S2) S):W P c Q S:=
 λG w a hr=>Code.wp_mono (λe a' w' ⟨S1,G',⟨S2,hw,hq⟩,h2,h3,h4⟩=>⟨S2,G',hq,h2,hw G' w' a' h3,h4⟩) (h G w a hr)
def Vdv{Q:Qj->St->Prop}:∀(ks:F Fm)(e:Qj)(S:St),Dg P (QW Q ()) ks e S->∃ S2,Xu S S2/\Dg P Q ks e S2
 |[],e,S,h=>h
 | .sq d::ks,e,S,h=>by
  cases e with
  |normal=>exact⟨S,λ_ _ _ h=>h,W_weakE (Vgg h (λe S1 h1=>Vdv ks e S1 h1))⟩
  |_=>exact Vdv ks _ S h
 | .bk id::ks,e,S,h=>by
  unfold Dg Vgz at h ⊢;cases e with
  |exit i=>
   simp only at h ⊢
   split at h
   ·obtain⟨S2,h1,h2⟩:=Vdv ks _ S h;exact⟨S2,h1,by rw[Yu (by assumption)];exact h2⟩
   ·obtain⟨S2,h1,h2⟩:=Vdv ks _ S h;exact⟨S2,h1,by rw[Z3 (by assumption)];exact h2⟩
  |_=>exact Vdv ks _ S h
 | .sc::ks,e,S,h=>by
  cases e with
  |goto l=>exact Yq h id
  |_=>exact Vdv ks _ S h
def Vdw{Q Q':Qj->St->Prop}(hq:∀ e S,Q e S->Q' e S):∀(ks:F Fm)(e:Qj)(S:St),Dg P Q ks e S->Dg P Q' ks e S
 |[],e,S,h=>hq e S h
 | .sq d::ks,e,S,h=>by
  cases e with
  |normal=>exact Vgg h (λe S1 h1=>Vdw hq ks e S1 h1)
  |_=>exact Vdw hq ks _ S h
 | .bk id::ks,e,S,h=>by
  unfold Dg Vgz at h ⊢;cases e with
  |exit i=>
   simp only at h ⊢
   split at h
   ·rw[Yu (by assumption)];exact Vdw hq ks _ S h
   ·rw[Z3 (by assumption)];exact Vdw hq ks _ S h
  |_=>exact Vdw hq ks _ S h
 | .sc::ks,e,S,h=>by
  cases e with
  |goto l=>exact Yq h id
  |_=>exact Vdw hq ks _ S h
def NXE{α ι:Type}{K:α->Qj->St->Prop}{M:α}{X T:Cf}(n:I)(S':St)(p:ι->Prop)(E:ι->Qj)(R:ι->St)(hX:isAt X=Zi)(hw:Xu (stOf X) S')(hc:cutX X n S'=T)
  (hN:Nx P (QW (λe S1=>∃ i,p i/\e=E i/\S1=R i)) () T)
  (hn:∀ i,p i->∃ oc:OC,csOf (contE P X n (E i) (R i) oc.o)=H oc.c/\Nx P K M (contE P X n (E i) (R i) oc.o)):Nx P K M X:=by
 unfold isAt at hX
 split at hX
 case h_2=>cases hX
 rename_i c0 o0 c ks S;subst hc;obtain⟨hN⟩:=hN;refine⟨?_⟩;have hN:W P c (Dg P (QW (λe S1=>∃ i,p i/\e=E i/\S1=R i) ()) (ks.take n)) S':=hN
 show W P c (Dg P (K M) ks) S;refine Vaj hw ?_;have hk:Dg P (K M) ks=Dg P (Dg P (K M) (ks.drop n)) (ks.take n):=by rw[<-Vbi,Xt]
 rw[hk];refine Vgg (W_weakE (Vgg hN (λe S1 h=>Vdv _ e S1 h))) (λe S1 h=>Vdw (λe S1 h1=>?_) _ e S1 h);obtain⟨i,hp,rfl,rfl⟩:=h1;obtain⟨oc,h1,⟨h2⟩⟩:=hn i hp;simp only[contE]at h1 h2;cases hk:goK P (ks.drop n) (H ([],oc.o,.fin (E i) (R i)))with
 |none=>rw[hk]at h1;simp[csOf]at h1
 |some r=>
  obtain⟨c2,o2,out2⟩:=r;rw[hk]at h1 h2;unfold csOf at h1
  split at h1
  ·rename_i e;simp only[Zm,Zy]at e h1;obtain⟨rfl,rfl,rfl⟩:=e;subst h1;exact(Vau (K M) _ _ _ _ _ _ _ hk (oc.h Zt) h2).2
  ·simp at h1
end Go.Eng
namespace Go.Proofs.YthbpjmogdonlkaaGreatDoor
open Go Go.Eng
def opS(bef near:J):F J->J
 |[]=>near
 |x::r=>Zp (Zf (x<=near)) near (Zp (bef !=x) x (opS bef near r))
def opA(cl:Zq)(v:I):Bool:=Zp (Zp ((((v:I):J).tmod 2)==1) Zi cl.fOpen) (!eqs cl.fChar ⟨#[126]⟩) V
def opL(v:I):Int:=IntKind.i64.wrap (((v:I):J).tdiv 2)
def opC(cl:Zq)(v:I):Bool:=Zp (((opL v+cl.fN).tmod 3)==0) (opL v !=0) V
def opK(O:Ops)(cl:Zq)(bef:J)(v:I)(near:J):Int:=Zp (Zp (opA cl v) (opC cl v) V) near (opS bef near (O (chrN cl.fChar*6+v)).reverse)
def opF(O:Ops)(cl:Zq)(bef:J):I->I->J->J
 |0,_,near=>near
 |n+1,v,near=>opF O cl bef n (v+1) (opK O cl bef v near)
def opM(O:Ops)(cl:Zq)(bef:J):Int:=opF O cl bef 6 0 0
def clO(ps:F Zq)(els:F Ym)(c:J):DPiece:=el ps (el els c.toNat).fpiece.toNat
def opR(r:J):SV:=.av (.tup [vI r,vB (Zf (r>0))])
def opX(ps:F Zq)(els:F Ym)(O:Ops)(prs:F AV)(c near:J)(cl:Zq)(sl:F (I×SV)):St:=sx 101 ([(0,.ptr 1000 0),(1,jI c),(6,.ptr 6 0),(7,jI near)]++sl) ((6,.cells 68 (sPiece cl))::stB ps els O prs) []
def take_prd(l:F J)(r:I)(h0:0<r)(h:r<=l.length):l.take r=l.take (r-1)++[el l (((r:I):J)-1).toNat]:=by
 obtain⟨k,rfl⟩:∃ k,r=k+1:=⟨r-1,kv⟩
 rw[show(((k+1:I):J)-1).toNat=k by omega,Nat.add_sub_cancel,List.take_succ_eq_append_getElem kv];simp[el,show k<l.length by omega]
def I18(i:I):Prop:=i=0\/i=1\/i=2\/i=3\/i=4\/i=5\/i=6\/i=7\/i=8\/i=9\/i=10\/i=11\/i=12\/i=13\/i=14\/i=15\/i=16\/i=17
def opQ(ps:F Zq)(els:F Ym)(O:Ops)(prs:F AV)(c:J)(cl:Zq)(near:J)(v:I):Qj->St->Prop:=λe S1=>∃ b:Yr,Y6/\e=Zp b (.exit 1) .normal/\S1=opX ps els O prs c near cl [(27,jI ((v:I):J))]
def opY(ps:F Zq)(els:F Ym)(O:Ops)(prs:F AV)(c near:J)(cl:Zq)(i v:I)(j:J):St:=opX ps els O prs c near cl [(11,.vs (2010+i) (O i).length),(12,jI j),(27,jI ((v:I):J))]
def op_in(ps:F Zq)(els:F Ym)(O:Ops)(prs:F AV)(c near:J)(cl:Zq)(i v:I)(hI:I18 i)(hc:Ix els c)(hn0:(O i).length<=1073741824):
  Nx Ze (QW (opQ ps els O prs c cl (opS (el els c.toNat).fbefore near (O i).reverse) v)) () (startL 11 (Vbf Tryz.f248) [.bk 2] (opY ps els O prs c near cl i v (((O i).length:J)-1))):=by
 have hec:=Vck els c hc.1 hc.2;refine LP (n:=(O i).length+1) (λN M S=>∃ r:I,r<=(O i).length/\opS (el els c.toNat).fbefore near ((O i).take r).reverse=opS (el els c.toNat).fbefore near (O i).reverse/\r<N/\M=()/\S=opY ps els O prs c near cl i v (((r:I):J)-1)) kx ⟨_,Zn _,by rw[Js],kv,rfl,rfl⟩ (λ_ _ _ h=>h) ?_;rintro n1 M S ⟨r,hr,hq,hF1,rfl,rfl⟩;obtain⟨n1,rfl⟩:∃ k,n1=k+1:=⟨n1-1,kv⟩
 by_cases h2:0<r
 ·have hd2:Zf ((((r:I):J)-1)>=0)=true:=Z5 kv;have hix:0<=((r:I):J)-1/\((r:I):J)-1<(((O i).length:I):J):=⟨kv,kv⟩
  have hel:=elI_vI (O i) (((r:I):J)-1) hix.1 hix.2;have ht:=take_prd (O i) r h2 hr;generalize el (O i) (((r:I):J)-1).toNat=x at hel ht;have hq2:opS (el els c.toNat).fbefore near ((O i).take r).reverse=Zp (Zf (x<=near)) near (Zp ((el els c.toNat).fbefore !=x) x (opS (el els c.toNat).fbefore near ((O i).take (r-1)).reverse)):=by
   rw[ht,List.reverse_append];rfl
  cases hx1:Zf (x<=near)with
  |true=>
   rw[hx1,Z1]at hq2;rw[<-hq,hq2];refine GO (z6 hd2<|p7 hix<|ke hel<|z6 hx1 z) (by repeat (obtain rfl|hI:=hI;kernel_rfl)) ?_;refine Ir z (by repeat (obtain rfl|hI:=hI;kernel_rfl)) ?_;exact D6 (.exit 1) (by repeat (obtain rfl|hI:=hI;kernel_rfl)) (WK (by repeat (obtain rfl|hI:=hI;kernel_rfl))) ⟨Zi,Zt,rfl,rfl⟩
  | false=>
   rw[hx1,Z2]at hq2;refine GO (z6 hd2<|p7 hix<|ke hel<|z6 hx1 z) (by repeat (obtain rfl|hI:=hI;kernel_rfl)) ?_;cases hx2:((el els c.toNat).fbefore !=x)with
   |true=>
    rw[hx2,Z1]at hq2;rw[<-hq,hq2];refine D4 (gq hc<|bq hec<|p7 hix<|ke hel<|m0 hx2<|p7 hix<|ke hel m5) kx (by repeat (obtain rfl|hI:=hI;kernel_rfl)) (by repeat (obtain rfl|hI:=hI;kernel_rfl)) ?_;refine Ir z (by repeat (obtain rfl|hI:=hI;kernel_rfl)) ?_;exact D6 (.exit 1) (by repeat (obtain rfl|hI:=hI;kernel_rfl)) (WK (by repeat (obtain rfl|hI:=hI;kernel_rfl))) ⟨Zi,Zt,rfl,rfl⟩
   |false=>
    rw[hx2,Z2]at hq2;have hwr:IntKind.i64.wrap ((((r:I):J)-1)-1)=(((r-1:I):I):J)-1:=wrE _ _ kv;refine D4 (gq hc<|bq hec<|p7 hix<|ke hel<|m0 hx2<|m6 hwr m5) kx (by repeat (obtain rfl|hI:=hI;kernel_rfl)) (by repeat (obtain rfl|hI:=hI;kernel_rfl)) ?_;exact AG (m:=n1) ⟨r-1,kv,hq2.symm.trans hq,kv,rfl,rfl⟩ (WK (by repeat (obtain rfl|hI:=hI;kernel_rfl))) (by repeat (obtain rfl|hI:=hI;kernel_rfl)) (Zh _)
 ·have hr0:r=0:=kv;subst hr0;have hq:near=opS (el els c.toNat).fbefore near (O i).reverse:=hq;rw[<-hq];refine gO (z6 (b:=Zf ((((0:I):J)-1)>=0)) (d:=V) rfl z) ?_;refine Ir z kx ?_;exact D6 .normal kx (WK kx) ⟨V,Zt,rfl,rfl⟩
def exN(last:J)(l:F J):I->I
 |0=>0
 |r+1=>Zp (Zf (el l r>last)) (exN last l r) (r+1)
def exL(last:J)(l:F J):F Int:=l.take (exN last l l.length)
def exN_s(last:J)(l:F J)(r:I):exN last l (r+1)=Zp (Zf (el l r>last)) (exN last l r) (r+1):=rfl
def exN_le(last:J)(l:F J):∀ r,exN last l r<=r
 |0=>Zn _
 |r+1=>by
  unfold exN;cases Zf (el l r>last)with
  |true=>exact Nat.le_succ_of_le (exN_le last l r)
  |false=>exact Zn _
def updO(O:Ops)(i:I)(l:F J):Ops:=λj=>Zp (Qq j i) l (O j)
def exX(ps:F Zq)(els:F Ym)(O:Ops)(prs:F AV)(last:J)(sl:F (I×SV)):St:=sx 58 ([(0,.ptr 1000 0),(1,jI last)]++sl) (stB ps els O prs) []
def exR(a b d:I):F (I×SV):=[(4,jI ((a:I):J)),(5,jI ((b:I):J)),(6,jI ((d:I):J)),(8,jI ((a:I):J)),(11,jI ((b:I):J)),(14,jI ((d:I):J))]
def ex_in(ps:F Zq)(els:F Ym)(O:Ops)(prs:F AV)(last:J)(a b d i:I)(hI:I18 i)(hn0:(O i).length<=1073741824):
  Nx Ze (QW (λe S1=>∃ _:Je,Y6/\e=.normal/\S1=exX ps els O prs last ([(7,.vs (2010+i) (exN last (O i) (O i).length))]++exR a b d))) () (startL 10 (Vbf Tryz.f291) [.bk 6] (exX ps els O prs last ([(7,.vs (2010+i) (O i).length)]++exR a b d))):=by
 refine LP (n:=(O i).length+1) (λN M S=>∃ r:I,r<=(O i).length/\exN last (O i) r=exN last (O i) (O i).length/\r<N/\M=()/\S=exX ps els O prs last ([(7,.vs (2010+i) r)]++exR a b d)) kx ⟨_,Zn _,rfl,kv,rfl,rfl⟩ (λ_ _ _ h=>h) ?_;rintro n1 M S ⟨r,hr,hq,hF1,rfl,rfl⟩;obtain⟨n1,rfl⟩:∃ k,n1=k+1:=⟨n1-1,kv⟩
 by_cases h2:0<r
 ·obtain⟨q,rfl⟩:∃ q,r=q+1:=⟨r-1,kv⟩
  have hix:0<=((q:I):J)/\((q:I):J)<((q+1:I):J):=⟨kv,kv⟩
  have hel:=elI_vI (O i) ((q:I):J) kv kv;have hwr:IntKind.i64.wrap (((q+1:I):J)-1)=((q:I):J):=wrE _ _ kv;have hd:Zf (((q+1:I):J)>0)=true:=Z5 kv;have hcut:(0:J)=0/\0<=((q:I):J)/\((q:I):J)<=((q+1:I):J):=⟨rfl,kv,kv⟩
  rw[exN_s]at hq;cases hx:Zf (el (O i) q>last)with
  |true=>
   rw[hx,Z1]at hq;have hx2:Zp (Zf (((q+1:I):J)>0)) (Zf (el (O i) ((q:I):J).toNat>last)) V=true:=by rw[hd];exact hx
   refine GO (j8 (Zf (((q+1:I):J)>0)) (tn 3<|hn (λ_=>hwr)<|hp (λ_=>hix)<|he (λ_=>hel) j6) z<|kb hx2<|t8 hwr<|kp hcut m5) (by repeat (obtain rfl|hI:=hI;kernel_rfl)) ?_;exact AG (m:=n1) ⟨q,kv,hq,kv,rfl,rfl⟩ (WK (by repeat (obtain rfl|hI:=hI;kernel_rfl))) (by repeat (obtain rfl|hI:=hI;kernel_rfl)) (Zh _)
  |false=>
   rw[hx,Z2]at hq;rw[<-hq];have hx2:Zp (Zf (((q+1:I):J)>0)) (Zf (el (O i) ((q:I):J).toNat>last)) V=false:=by rw[hd];exact hx
   refine GO (j8 (Zf (((q+1:I):J)>0)) (tn 3<|hn (λ_=>hwr)<|hp (λ_=>hix)<|he (λ_=>hel) j6) z<|kb hx2 z) (by repeat (obtain rfl|hI:=hI;kernel_rfl)) ?_;refine Ir z (by repeat (obtain rfl|hI:=hI;kernel_rfl)) ?_;exact D6 .normal (by repeat (obtain rfl|hI:=hI;kernel_rfl)) (WK (by repeat (obtain rfl|hI:=hI;kernel_rfl))) ⟨(),Zt,rfl,rfl⟩
 ·have hr0:r=0:=kv;subst hr0;have hq:0=exN last (O i) (O i).length:=hq;rw[<-hq];have hnf:¬ Zf (((0:I):J)>0)=true:=gj;refine GO (j8 (Zf (((0:I):J)>0)) (tn 3<|hn (λ_=>wrE (((0:I):J)-1) (-1) gj)<|hp (p:=0<=(-1:J)/\(-1:J)<((0:I):J)) (λh=>Yq h.2 hnf)<|he (l:=(O i).map vI) (i:= -1) (y:=vI 0) (λh=>Yq h.2 hnf) j6) z<|kb (b:=V) (d:=V) rfl z) (by repeat (obtain rfl|hI:=hI;kernel_rfl)) ?_;refine Ir z (by repeat (obtain rfl|hI:=hI;kernel_rfl)) ?_;exact D6 .normal (by repeat (obtain rfl|hI:=hI;kernel_rfl)) (WK (by repeat (obtain rfl|hI:=hI;kernel_rfl))) ⟨(),Zt,rfl,rfl⟩
def exL_len(last:J)(l:F J):(exL last l).length=exN last l l.length:=by
 unfold exL;rw[Jv];exact J1 (exN_le last l _)
def exL_map(last:J)(l:F J):(l.map vI).take (exL last l).length=(exL last l).map vI:=by
 rw[exL_len,exL,List.map_take]
def ex_tail(ps:F Zq)(els:F Ym)(O:Ops)(prs:F AV)(last:J)(a b d:I)(ha:a<3)(hb:b<3)(hd:d<2)(hO:∀ i,(O i).length<=1073741824):
  Nx Ze (QW (λe S1=>∃ _:Je,Y6/\e=.normal/\S1=exX ps els (updO O (a*6+b*2+d) (exL last (O (a*6+b*2+d)))) prs last (exR a b d))) () (startR 9 (Vbf Tryz.f291) (exX ps els O prs last (exR a b d))):=by
 have hA:a=0\/a=1\/a=2:=kv;have hB:b=0\/b=1\/b=2:=kv;have hD:d=0\/d=1:=kv;have qa:0<=((a:I):J)/\((a:I):J)<((3:I):J):=⟨kv,kv⟩
 have qb:0<=((b:I):J)/\((b:I):J)<((3:I):J):=⟨kv,kv⟩
 have qd:0<=((d:I):J)/\((d:I):J)<((2:I):J):=⟨kv,kv⟩
 have hin:=ex_in ps els O prs last a b d (a*6+b*2+d) (by unfold I18;omega) (hO _);rw[<-exL_len]at hin;refine GO (nq qa<|kp qb<|kp qd j6) (by rcases hA with rfl|rfl|rfl <;>rcases hB with rfl|rfl|rfl <;>rcases hD with rfl|rfl <;>kernel_rfl) ?_;refine NXE 1 (exX ps els O prs last ([(7,.vs (2010+(a*6+b*2+d)) (O (a*6+b*2+d)).length)]++exR a b d)) (λ_:Je=>Y6) (λ_=>.normal) (λ_=>exX ps els O prs last ([(7,.vs (2010+(a*6+b*2+d)) (exL last (O (a*6+b*2+d))).length)]++exR a b d)) (by rcases hA with rfl|rfl|rfl <;>rcases hB with rfl|rfl|rfl <;>rcases hD with rfl|rfl <;>kernel_rfl) (WK (by rcases hA with rfl|rfl|rfl <;>rcases hB with rfl|rfl|rfl <;>rcases hD with rfl|rfl <;>kernel_rfl)) (by rcases hA with rfl|rfl|rfl <;>rcases hB with rfl|rfl|rfl <;>rcases hD with rfl|rfl <;>kernel_rfl) hin (λ_ _=>?_);refine⟨kq 12 z,(by rcases hA with rfl|rfl|rfl <;>rcases hB with rfl|rfl|rfl <;>rcases hD with rfl|rfl <;>kernel_rfl),?_⟩;refine CUTV (2010+(a*6+b*2+d)) (exL last (O (a*6+b*2+d))).length (e:=3) (sz:=1) (by rcases hA with rfl|rfl|rfl <;>rcases hB with rfl|rfl|rfl <;>rcases hD with rfl|rfl <;>kernel_rfl) (exL_map last (O (a*6+b*2+d))) ?_;refine GO (tn 7<|kp qa<|kp qb<|kp qd m5) (by rcases hA with rfl|rfl|rfl <;>rcases hB with rfl|rfl|rfl <;>rcases hD with rfl|rfl <;>kernel_rfl) ?_;exact D6 .normal (by rcases hA with rfl|rfl|rfl <;>rcases hB with rfl|rfl|rfl <;>rcases hD with rfl|rfl <;>kernel_rfl) (WK (by rcases hA with rfl|rfl|rfl <;>rcases hB with rfl|rfl|rfl <;>rcases hD with rfl|rfl <;>kernel_rfl)) ⟨(),Zt,rfl,rfl⟩
def exO(O:Ops)(last:J)(k:I):Ops:=λj=>Zp (Zf (j<k)) (exL last (O j)) (O j)
def exL_le(last:J)(l:F J):(exL last l).length<=l.length:=by rw[exL_len];exact exN_le _ _ _
def exO_le{O:Ops}(hO:∀ i,(O i).length<=1073741824)(last:J)(k i:I):(exO O last k i).length<=1073741824:=by
 unfold exO;cases Zf (i<k)with
 |true=>exact Jk (exL_le _ _) (hO i)
 |false=>exact hO i
def upd_exO(O:Ops)(last:J)(k:I):updO (exO O last k) k (exL last (exO O last k k))=exO O last (k+1):=by
 funext j;unfold updO
 by_cases h:j=k
 ·subst h;rw[show Qq j j=Zi from Nat.beq_refl j,Z1];simp[exO]
 ·rw[show Qq j k=V by rw[<-Bool.not_eq_true,Nat.beq_eq];exact h,Z2];unfold exO;rw[show Zf (j<k+1)=Zf (j<k) by rw[decide_eq_decide];omega]
def exc_to(ps:F Zq)(els:F Ym)(O:Ops)(prs:F AV)(last:J)(hO:∀ i,(O i).length<=1073741824):
  Va1 Ze 291 [.ptr 1000 0,jI last] (stB ps els O prs) [] Vav (stB ps els (λj=>exL last (O j)) prs) []:=by
 refine bGs Tryz.func291 ?_;refine gO m5 ?_;refine LP (n:=4) (λN M S=>∃ a:I,a<=3/\3-a<N/\M=()/\S=exX ps els (exO O last (a*6)) prs last [(8,jI ((a:I):J))]) kx ⟨0,kv,kv,rfl,rfl⟩ (WK kx) ?_;rintro n0 M S ⟨a,ha,hF0,rfl,rfl⟩;obtain⟨n0,rfl⟩:∃ k,n0=k+1:=⟨n0-1,kv⟩
 by_cases h1:a<3
 ·have hda:Zf (((a:I):J)<3)=true:=Z5 kv;have hwa:IntKind.i64.wrap (((a:I):J)+1)=((a+1:I):J):=wrE _ _ kv;refine gO (m0 hda i6) ?_;refine LP (n:=4) (λN M S=>∃ b:I,b<=3/\3-b<N/\M=()/\S=exX ps els (exO O last (a*6+b*2)) prs last [(4,jI ((a:I):J)),(8,jI ((a:I):J)),(11,jI ((b:I):J))]) kx ⟨0,kv,kv,rfl,rfl⟩ (WK kx) ?_;rintro n1 M S ⟨b,hb,hF1,rfl,rfl⟩;obtain⟨n1,rfl⟩:∃ k,n1=k+1:=⟨n1-1,kv⟩
  by_cases h2:b<3
  ·have hdb:Zf (((b:I):J)<3)=true:=Z5 kv;have hwb:IntKind.i64.wrap (((b:I):J)+1)=((b+1:I):J):=wrE _ _ kv;refine gO (m0 hdb i6) ?_;refine LP (n:=3) (λN M S=>∃ d:I,d<=2/\2-d<N/\M=()/\S=exX ps els (exO O last (a*6+b*2+d)) prs last [(4,jI ((a:I):J)),(5,jI ((b:I):J)),(8,jI ((a:I):J)),(11,jI ((b:I):J)),(14,jI ((d:I):J))]) kx ⟨0,kv,kv,rfl,rfl⟩ (WK kx) ?_;rintro n2 M S ⟨d,hd,hF2,rfl,rfl⟩;obtain⟨n2,rfl⟩:∃ k,n2=k+1:=⟨n2-1,kv⟩
   by_cases h3:d<2
   ·have hdd:Zf (((d:I):J)<2)=true:=Z5 kv;have hwd:IntKind.i64.wrap (((d:I):J)+1)=((d+1:I):J):=wrE _ _ kv;have ht:=ex_tail ps els (exO O last (a*6+b*2+d)) prs last a b d h1 h2 h3 (exO_le hO last _);rw[upd_exO]at ht;refine gO (m0 hdd<|kq 9 j6) ?_;refine NXE 1 (exX ps els (exO O last (a*6+b*2+d)) prs last (exR a b d)) (λ_:Je=>Y6) (λ_=>.normal) (λ_=>exX ps els (exO O last (a*6+b*2+d+1)) prs last (exR a b d)) kx (WK kx) kx ht (λ_ _=>?_);refine⟨kn hwd m5,kx,?_⟩;exact AG (m:=n2) ⟨d+1,kv,kv,rfl,rfl⟩ (WK kx) kx (Zh _)
   ·have hd2:d=2:=kv;subst hd2;refine gO (m0 (b:=V) (d:=V) rfl z) ?_;refine Ir (kn hwb m5) kx ?_;exact AG (m:=n1) (S'':=exX ps els (exO O last (a*6+b*2+2)) prs last [(4,jI ((a:I):J)),(8,jI ((a:I):J)),(11,jI ((b+1:I):J))]) ⟨b+1,kv,kv,rfl,by rw[show a*6+(b+1)*2=a*6+b*2+2 by omega]⟩ (WK kx) kx (Zh _)
  ·have hb3:b=3:=kv;subst hb3;refine gO (m0 (b:=V) (d:=V) rfl z) ?_;refine Ir (kn hwa m5) kx ?_;exact AG (m:=n0) (S'':=exX ps els (exO O last (a*6+3*2)) prs last [(8,jI ((a+1:I):J))]) ⟨a+1,kv,kv,rfl,by rw[show(a+1)*6=a*6+3*2 by omega]⟩ (WK kx) kx (Zh _)
 ·have ha3:a=3:=kv;subst ha3;refine gO (m0 (b:=V) (d:=V) rfl z) ?_;refine Ir z kx ?_;exact eNs
end Go.Proofs.YthbpjmogdonlkaaGreatDoor
namespace Go.Eng
open Go
def Vq9{P:Ye}{o:Yz}{S:St}{t:Db}{parts:Yp (I×Qp)}{sz bt:I}{z:Xx}{pl:F (I×I)}{ps:F (I×AV)}{r:F AV}(ho:o.op=.build t parts)(hi:Van P t=H (sz,bt,H z))
  (h1:z.cells.toList.all (λc=>c.oneCell')=Zi) (hpl:Vfr P t=H pl) (hp:Ve9 S parts.toList=H ps) (hf:aFill pl (z.cells.toList.map .val) ps=H r):Dj P o S ⟨Y6,.av (.agg r),S⟩:=
 Sound.still λ_ G w a hr=>by
  have h1':∀ x∈z.cells.toList,x.oneCell'=true:=λc hc=>Zj.1 h1 c hc
  obtain⟨g1,g2⟩:=Vf4 hr hp;unfold Vfr at hpl
  split at hpl
  ·rename_i fs hu;obtain⟨us',f1,f2,f3⟩:=Vgo (U:=G.U) (w:=w) pl (λi=>pl[i]?) (λi=>rfl) ps _ _ r z.cells g1 g2 (RepL_val _ h1') h1' hf;refine⟨.agg us',?_,?_⟩
   ·have hm:=run_places w fs.toList pl hpl;have hm2:(fs.mapM (λf=>do pure (f.offset, <-sizeOf f.type)):Sem (Yp (I×I))).run P w=.ok pl.toArray w:=by
     rw[Qk];simp only[Dz,hm,Qn]
    simp only[bind_pure_comp]at hm2;have hl:(parts.map λ(x:I×Qp)=>(x.1,a.eval x.2)).toList=parts.toList.map (λp=>(p.1,a.eval p.2)):=ku;simp[execOp,ho,Instr.build,Var hi,Va0 hu,hm2,f1]
   ·simp only[Q3,D9];exact⟨us',rfl,f2,f3⟩
  ·simp at hpl
end Go.Eng
namespace Go.Proofs.YthbpjmogdonlkaaGreatDoor
open Go Go.Eng
def lf(els:F Ym)(k:J):Int:=(el els k.toNat).fleft
def nx(els:F Ym)(k:J):Int:=(el els k.toNat).fnext
def bf(els:F Ym)(k:J):Int:=(el els k.toNat).fbefore
def pc(els:F Ym)(k:J):Int:=(el els k.toNat).fpiece
def mkE(x:Y5):DEm:=DEm.mk x V 0 0 0 0
def prN(els:F Ym)(o c:J):Int:=Zp (Zp (Zf (lf els o>=2)) (Zf (lf els c>=2)) V) 2 1
def prK(ps:F Zq)(els:F Ym)(c n:J):Int:=Zp (eqs (el ps (pc els c).toNat).fChar ⟨#[126]⟩) 8 (Zp (n==2) 7 6)
def prI(k:J)(kids:F Y5):DInline:=Xo k ⟨#[]⟩ ⟨#[]⟩ ⟨#[]⟩ ⟨⟨#[]⟩,[],[]⟩ [] [] kids
def pr2(els:F Ym)(o c:J):F DEm:=setP (setN els o.toNat c) c.toNat o
def pr3(ps:F Zq)(els:F Ym)(o c:J)(m:I):F DEm:=insM (pr2 els o c) (mkE (prI (prK ps els c (prN els o c)) (btM ps els c m (nx els o)))) c
def pr4(els:F Ym)(o n:J):F DEm:=setL els o.toNat (lf els o-n)
def pr5(ps:F Zq)(els:F Ym)(o c:J)(m:I):F DEm:=pr4 (pr4 (pr3 ps els o c m) o (prN els o c)) c (prN els o c)
def prR(els:F Ym)(k:J):F DEm:=Zp (lf els k==0) (remM els k) els
def pr6(ps:F Zq)(els:F Ym)(o c:J)(m:I):F DEm:=prR (pr5 ps els o c m) o
def pr7(ps:F Zq)(els:F Ym)(o c:J)(m:I):F DEm:=prR (pr6 ps els o c m) c
def prL(ps:F Zq)(els:F Ym)(o c:J)(m:I):Int:=Zp (lf (pr5 ps els o c m) o==0) (o-1) o
def prP(els:F Ym)(o c:J):AV:=.agg [vI (pc els o),vI (pc els c),vI (prN els o c)]
def Ve8(els:F Ym)(o c:J):(pr2 els o c).length=els.length:=by simp[pr2,setP,setN,Vcf]
def Vh8(ps:F Zq)(els:F Ym)(o c:J)(m:I):(pr3 ps els o c m).length=els.length+1:=by rw[pr3,Vhz,Ve8]
def Vj0(els:F Ym)(o n:J):(pr4 els o n).length=els.length:=by rw[pr4,setL,Vcf]
def Vot(els:F Ym)(k:J):(prR els k).length=els.length:=by
 unfold prR;cases(lf els k==0)with
 |true=>exact remM_len els k
 |false=>rfl
def pr5_len(ps:F Zq)(els:F Ym)(o c:J)(m:I):(pr5 ps els o c m).length=els.length+1:=by rw[pr5,Vj0,Vj0,Vh8]
structure PrOk (ps:F Zq) (els:F Ym) (o c:J) (m:I):Prop where
 ho:Ix els o
 hc:Ix els c
 hpc:0<=pc els c/\pc els c<ps.length
 hbt:BtOk ps els c m (nx els o)
 hm:m<=1073741824
 hbf:Ix (pr2 els o c) (bf (pr2 els o c) c)
 h3: -1<=lf (pr3 ps els o c m) o/\lf (pr3 ps els o c m) o<=1073741824
 h4: -1<=lf (pr4 (pr3 ps els o c m) o (prN els o c)) c/\lf (pr4 (pr3 ps els o c m) o (prN els o c)) c<=1073741824
 h5:lf (pr5 ps els o c m) o=0->Ix (pr5 ps els o c m) (bf (pr5 ps els o c m) o)/\Ix (pr5 ps els o c m) (nx (pr5 ps els o c m) o)
 h6:lf (pr6 ps els o c m) c=0->Ix (pr6 ps els o c m) (bf (pr6 ps els o c m) c)/\Ix (pr6 ps els o c m) (nx (pr6 ps els o c m) c)
def stN(ps:F Zq)(n:I)(els:F Ym)(O:Ops)(m:I)(prs:F AV):F (I×Xa):=[(1000,stC ps n O m),(2001,emB els),(2002,.vec 201 3 prs)]++(Zz 18).map (opB O)
def Voe{ps:F Zq}{n m:I}{els:F Ym}{O:Ops}{prs:F AV}(h:els.length=n)(h2:prs.length=m):stB ps els O prs=stN ps n els O m prs:=by subst h h2;rfl
def GHW{P:Ye}{α:Type}{K:α->Qj->St->Prop}{M:α}{X:Cf}(S':St)(hw:Xu (stOf X) S')(hn:Nx P K M (reSt X S')):Nx P K M X:=Vpw (λG w a h=>⟨G,Q1 G w,hw G w a h,λ_ _=>rfl⟩) hn
def pai_to(ps:F Zq)(els:F Ym)(O:Ops)(prs:F AV)(o c:J)(m:I)(hP:PrOk ps els o c m)(hn:els.length<274877906944)(hpl:prs.length<=274877906944)(hO:∀ i,(O i).length<=1073741824):
  Va1 Ze 249 [.ptr 1000 0,jI o,jI c] (stB ps els O prs) [] Vav (stB ps (pr7 ps els o c m) (λj=>exL (prL ps els o c m) (O j)) (prs++[prP els o c])) []:=by
 have hl2:=Ve8 els o c;have hl3:=Vh8 ps els o c m;have heo:=Vck els o hP.ho.1 hP.ho.2;have hec:=Vck els c hP.hc.1 hP.hc.2;have hep:=Vje ps (pc els c) hP.hpc.1 hP.hpc.2;have hbw:=bw_to ps els O prs o c m hP.ho hP.hbt hP.hm;obtain⟨kids,hkids⟩:∃ k,k=btM ps els c m (nx els o):=⟨_,rfl⟩
 rw[show(el els o.toNat).fnext=nx els o from rfl, <-hkids]at hbw;have hc2:Ix (pr2 els o c) c:=⟨hP.hc.1,by rw[hl2];exact hP.hc.2⟩
 have hins:=ins_to ps (pr2 els o c) O prs (mkE (prI (prK ps els c (prN els o c)) kids)) c (by rw[hl2];omega) hc2 hP.hbf;have hnn:1<=prN els o c/\prN els o c<=2:=by
  unfold prN;cases(Zp (Zf (lf els o>=2)) (Zf (lf els c>=2)) V) <;>decide
 obtain⟨e3,he3⟩:∃ e,e=pr3 ps els o c m:=⟨_,rfl⟩
 rw[show insM (pr2 els o c) (mkE (prI (prK ps els c (prN els o c)) kids)) c=e3 by rw[he3,pr3,hkids]]at hins;obtain⟨e5,he5⟩:∃ e,e=pr5 ps els o c m:=⟨_,rfl⟩
 have h3:=hP.h3;have h4:=hP.h4;have h5:=hP.h5;have h6:=hP.h6;unfold pr7 prL;unfold pr6 at h6 ⊢;rw[<-he5]at h5 h6 ⊢;unfold pr5 at he5;rw[<-he3]at h3 h4 hl3 he5;obtain⟨e4,he4⟩:∃ e,e=pr4 e3 o (prN els o c):=⟨_,rfl⟩
 rw[<-he4]at h4 he5;have hl4:e4.length=els.length+1:=by rw[he4,Vj0,hl3]
 have hl5:e5.length=els.length+1:=by rw[he5,Vj0,hl4]
 have hlp:(prs++[prP els o c]).length=prs.length+1:=ku;rw[Voe hl2 rfl,Voe hl3 rfl]at hins;have hl6:(prR e5 o).length=els.length+1:=by rw[Vot,hl5]
 have hl7:(prR (prR e5 o) c).length=els.length+1:=by rw[Vot,hl6]
 rw[Voe hl7 hlp];obtain⟨e6,he6⟩:∃ e,e=prR e5 o:=⟨_,rfl⟩
 obtain⟨e7,he7⟩:∃ e,e=prR e6 c:=⟨_,rfl⟩
 rw[<-he6]at h6 hl6 hl7 ⊢;rw[<-he7]at hl7 ⊢;obtain⟨last,hlast⟩:∃ l,l=Zp (lf e5 o==0) (o-1) o:=⟨_,rfl⟩
 rw[<-hlast];have hexc:=exc_to ps e7 O (prs++[prP els o c]) last hO;rw[Voe hl7 hlp,Voe hl7 hlp]at hexc;unfold prR at he6 he7;have hio:=hP.ho;have hic:=hP.hc;have ho3:Ix e3 o:=⟨hio.1,by have:=hio.2;omega⟩
 have hc4:Ix e4 c:=⟨hic.1,by have:=hic.2;omega⟩
 have ho5:Ix e5 o:=⟨hio.1,by have:=hio.2;omega⟩
 have hw3:IntKind.i64.wrap (lf e3 o-prN els o c)=lf e3 o-prN els o c:=wrE _ _ kv;have hw4:IntKind.i64.wrap (lf e4 c-prN els o c)=lf e4 c-prN els o c:=wrE _ _ kv;have hwo:IntKind.i64.wrap (o-1)=o-1:=wrE _ _ (by have:=hio.1;have:=hio.2;omega);have hs1:=set_emN els o.toNat c (by have:=hio.1;have:=hio.2;omega);have hic1:Ix (setN els o.toNat c) c:=⟨hic.1,by rw[setN,Vcf];exact hic.2⟩
 have hs2:((setN els o.toNat c).map aEm).set c.toNat ((((setN els o.toNat c).map aEm).getD c.toNat (.val Q0)).upd 13 (vI o))=(pr2 els o c).map aEm:=set_emP _ c.toNat o (by have:=hic1.1;have:=hic1.2;omega);have hs4:(e3.map aEm).set o.toNat (((e3.map aEm).getD o.toNat (.val Q0)).upd 12 (vI (lf e3 o-prN els o c)))=e4.map aEm:=by rw[he4];exact set_emL e3 o.toNat _ (by have:=ho3.1;have:=ho3.2;omega)
 have hs5:(e4.map aEm).set c.toNat (((e4.map aEm).getD c.toNat (.val Q0)).upd 12 (vI (lf e4 c-prN els o c)))=e5.map aEm:=by rw[he5];exact set_emL e4 c.toNat _ (by have:=hc4.1;have:=hc4.2;omega)
 have hup:D8 3 [prP els o c]:=by
  intro y hy;simp only[Zl,Zs,Yf]at hy;subst hy;exact⟨rfl,rfl⟩
 have hap:prs.length<=prs.length/\D8 3 [prP els o c]/\(prs.length+([prP els o c]:F AV).length)*24<=140737488355328:=⟨Zn _,hup,by simp;omega⟩
 have hpt:prs.take prs.length++[prP els o c]=prs++[prP els o c]:=by rw[Js]
 have hq1:0<=o/\o<((els.length:I):J):=hio;have hq2:0<=c/\c<((els.length:I):J):=hic;have ho3n:0<=o/\o<((els.length+1:I):J):=⟨hio.1,by have:=hio.2;omega⟩
 have hc4n:0<=c/\c<((els.length+1:I):J):=⟨hic.1,by have:=hic.2;omega⟩
 have heo3:=Vck e3 o ho3.1 ho3.2;have hec4:=Vck e4 c hc4.1 hc4.2;have heo5:=Vck e5 o ho5.1 ho5.2;have hc6:Ix e6 c:=⟨hic.1,by have:=hic.2;omega⟩
 have hec6:=Vck e6 c hc6.1 hc6.2;refine bGs Tryz.func249 ?_;refine gO z ?_;refine D4 (gq hP.ho<|bq heo<|gq hP.hc<|bq hec<|tn 8<|kp hP.ho<|bq heo<|wq (Zf (lf els o>=2)) (tn 5<|hp (λ_=>hP.hc)<|tn 1<|he (λ_=>hec) m5) z<|ks (Zp (Zf (lf els o>=2)) (Zf (lf els c>=2)) V) [8] m5 z<|tn 3<|kg hbw Zt<|tn 8<|ke hep i7) kx kx kx ?_;have hk3:(eqs (el ps (pc els c).toNat).fChar ⟨#[126]⟩=Zi/\prK ps els c (prN els o c)=8)\/(eqs (el ps (pc els c).toNat).fChar ⟨#[126]⟩=V/\(prN els o c==2)=Zi/\prK ps els c (prN els o c)=7)\/(eqs (el ps (pc els c).toNat).fChar ⟨#[126]⟩=V/\(prN els o c==2)=V/\prK ps els c (prN els o c)=6):=by
  unfold prK;cases eqs (el ps (pc els c).toNat).fChar ⟨#[126]⟩ <;>cases(prN els o c==2) <;>simp
 rcases hk3 with⟨hk1,hkd⟩|⟨hk1,hk2,hkd⟩|⟨hk1,hk2,hkd⟩
 all_goals rw[hkd]at hins
 case' inl=>
  refine gO (kb hk1<|kq 9 j6) ?_
 case' inr.inl=>
  refine gO (kb hk1<|w7 hk2<|kq 9 j6) ?_
 case' inr.inr=>
  refine gO (kb hk1<|w7 hk2<|kq 9 z) ?_
 all_goals
  refine gO (nq hq1<|p9 (Vq4 els o 14 c gj hio)<|kq 10 z) ?_;refine BOX (e:=230) (sz:=15) 2001 kx hs1 ?_;refine gO (nq hq2<|p9 (Vq4 (setN els o.toNat c) c 13 o gj hic1)<|kq 11 z) ?_;refine BOX (e:=230) (sz:=15) 2001 kx hs2 ?_;refine gO (tn 4<|kg hins Zt<|tn 9<|kp hup<|kp hap<|kq 13 i6) ?_;refine BOX (e:=201) (sz:=3) 2002 kx hpt ?_;refine GHW (sx 155 [(0,.ptr 1000 0),(1,jI o),(2,jI c),(8,jI (prN els o c))] (stN ps (els.length+1) e3 O (prs.length+1) (prs++[prP els o c])) []) (WK kx) ?_;refine gO (gq ho3n<|bq heo3<|m6 hw3<|kp ho3n<|p9 (Vq4 e3 o 12 (lf e3 o-prN els o c) gj ho3)<|kq 14 z) ?_;refine BOX (e:=230) (sz:=15) 2001 kx hs4 ?_;refine gO (gq hc4n<|bq hec4<|m6 hw4<|kp hc4n<|p9 (Vq4 e4 c 12 (lf e4 c-prN els o c) gj hc4)<|kq 15 z) ?_;refine BOX (e:=230) (sz:=15) 2001 kx hs5 ?_;refine gO (tn 7<|kp ho3n<|bq heo5 m5) ?_;cases hr1:(lf e5 o==0)
  case' true=>
   obtain⟨x1,x2⟩:=h5 (eq_of_beq hr1);have hrem:=rem_to ps e5 O (prs++[prP els o c]) o ho5 x1 x2;rw[hr1,Z1]at he6 hlast;rw[<-he6,Voe hl5 hlp,Voe hl6 hlp]at hrem;subst hlast;refine gO (kb hr1<|o8 hrem Zt<|m6 hwo<|nq hc4n<|bq hec6 m5) ?_
  case' false=>
   rw[hr1,Z2]at he6 hlast;have hlast:=hlast.symm;subst hlast he6;refine gO (kb hr1<|gq hc4n<|bq hec6 m5) ?_
  all_goals
   cases hr2:(lf e6 c==0)
   case' true=>
    obtain⟨x1,x2⟩:=h6 (eq_of_beq hr2);have hrem:=rem_to ps e6 O (prs++[prP els o c]) c hc6 x1 x2;rw[hr2,Z1]at he7;rw[<-he7,Voe hl6 hlp,Voe hl7 hlp]at hrem;refine gO (kb hr2<|o8 hrem Zt<|o8 hexc Zt z) ?_
   case' false=>
    rw[hr2,Z2]at he7;subst he7;refine gO (kb hr2<|o8 hexc Zt z) ?_
   all_goals exact eNs
def opL_eq(v:I)(h1:v<6):opL v=((v / 2:I):J):=by
 have h2:((v:I):J).tdiv 2=((v / 2:I):J):=by rw[Int.tdiv_eq_ediv_of_nonneg kv];rfl
 unfold opL;rw[h2];exact wrE _ _ kv
def op_tail(ps:F Zq)(els:F Ym)(O:Ops)(prs:F AV)(c near:J)(cl:Zq)(v:I)(h1:v<6)(hc:Ix els c)(hO:∀ i,(O i).length<=1073741824):
  Nx Ze (QW (opQ ps els O prs c cl (opS (el els c.toNat).fbefore near (O (chrN cl.fChar*6+v)).reverse) v)) () (startR 9 (Vbf Tryz.f248) (opX ps els O prs c near cl [(9,jI (opL v)),(10,jI (((v:I):J).tmod 2)),(27,jI ((v:I):J))])):=by
 have hch:=chrN_lt cl.fChar;have hcc:=chr_to cl.fChar;generalize chrN cl.fChar=ch at hch hcc;have hn0:=hO (ch*6+v);have hnl:IntKind.i64.wrap ((((O (ch*6+v)).length:I):J)-1)=(((O (ch*6+v)).length:I):J)-1:=wrE _ _ kv;have hc3:0<=((ch:I):J)/\((ch:I):J)<((3:I):J):=⟨kv,kv⟩
 have hv3:0<=opL v/\opL v<((3:I):J):=by rw[opL_eq v h1];exact⟨kv,kv⟩
 have hv2:0<=((v:I):J).tmod 2/\((v:I):J).tmod 2<((2:I):J):=⟨J8 _ kv,I7 _ gj⟩
 have hV:v=0\/v=1\/v=2\/v=3\/v=4\/v=5:=kv;have hC:ch=0\/ch=1\/ch=2:=kv;have hI:I18 (ch*6+v):=by unfold I18;omega
 refine D4 (m8 hcc<|z8 hc3<|kp hv3<|kp hv2<|yq hnl m5) kx (by rcases hV with rfl|rfl|rfl|rfl|rfl|rfl <;>rcases hC with rfl|rfl|rfl <;>kernel_rfl) (by rcases hV with rfl|rfl|rfl|rfl|rfl|rfl <;>rcases hC with rfl|rfl|rfl <;>kernel_rfl) ?_;refine NXE 1 (opY ps els O prs c near cl (ch*6+v) v (((O (ch*6+v)).length:J)-1)) (λ_:Yr=>Y6) (λb=>Zp b (.exit 1) .normal) (λ_=>opX ps els O prs c (opS (el els c.toNat).fbefore near (O (ch*6+v)).reverse) cl [(27,jI ((v:I):J))]) (by rcases hV with rfl|rfl|rfl|rfl|rfl|rfl <;>rcases hC with rfl|rfl|rfl <;>kernel_rfl) (WK (by rcases hV with rfl|rfl|rfl|rfl|rfl|rfl <;>rcases hC with rfl|rfl|rfl <;>kernel_rfl)) (by rcases hV with rfl|rfl|rfl|rfl|rfl|rfl <;>rcases hC with rfl|rfl|rfl <;>kernel_rfl) (op_in ps els O prs c near cl (ch*6+v) v hI hc hn0) (λb _=>?_);refine⟨z,by cases b <;>(rcases hV with rfl|rfl|rfl|rfl|rfl|rfl <;>rcases hC with rfl|rfl|rfl <;>kernel_rfl),?_⟩;exact D6 (Zp b (.exit 1) .normal) (by cases b <;>(rcases hV with rfl|rfl|rfl|rfl|rfl|rfl <;>rcases hC with rfl|rfl|rfl <;>kernel_rfl)) (WK (by cases b <;>(rcases hV with rfl|rfl|rfl|rfl|rfl|rfl <;>rcases hC with rfl|rfl|rfl <;>kernel_rfl))) ⟨b,Zt,rfl,rfl⟩
def ope_to(ps:F Zq)(els:F Ym)(O:Ops)(prs:F AV)(c:J)(hc:Ix els c)(hp:0<=(el els c.toNat).fpiece/\(el els c.toNat).fpiece<ps.length)(hN:0<=(clO ps els c).fN/\(clO ps els c).fN<=1073741824)(hO:∀ i,(O i).length<=1073741824):
  Va1 Ze 248 [.ptr 1000 0,jI c] (stB ps els O prs) [] (opR (opM O (clO ps els c) (el els c.toNat).fbefore)) (stB ps els O prs) []:=by
 obtain⟨cl,hcl⟩:∃ cl,cl=clO ps els c:=⟨_,rfl⟩
 obtain⟨bef,hbef⟩:∃ b,b=(el els c.toNat).fbefore:=⟨_,rfl⟩
 rw[<-hcl]at hN;have hep:=Vje ps (el els c.toNat).fpiece hp.1 hp.2;rw[show el ps (el els c.toNat).fpiece.toNat=cl from hcl.symm]at hep;have hec:=Vck els c hc.1 hc.2;rw[<-hcl, <-hbef];refine bGs Tryz.func248 ?_;refine gO j6 ?_;refine D4 (tn 9<|kp hc<|bq hec<|ke hep n8) kx kx kx ?_;refine LP (n:=7) (λN M S=>∃(v:I)(near:J),v<=6/\opF O cl bef (6-v) v near=opM O cl bef/\6-v<N/\M=()/\S=opX ps els O prs c near cl [(27,jI ((v:I):J))]) kx ⟨0,0,kv,rfl,kv,rfl,rfl⟩ (WK kx) ?_;rintro n0 M S ⟨v,near,hv,hm,hF0,rfl,rfl⟩;obtain⟨n0,rfl⟩:∃ k,n0=k+1:=⟨n0-1,kv⟩
 by_cases h1:v<6
 ·have hm2:opF O cl bef (6-(v+1)) (v+1) (opK O cl bef v near)=opM O cl bef:=by
   rw[show 6-v=(6-(v+1))+1 by omega]at hm;exact hm
  unfold opK at hm2;have hd:Zf (((v:I):J)<6)=true:=Z5 kv;have hv1:IntKind.i64.wrap (((v:I):J)+1)=((v+1:I):J):=wrE _ _ kv;have hvL:=opL_eq v h1;have hw:IntKind.i64.wrap (opL v+cl.fN)=opL v+cl.fN:=by
   rw[hvL];exact wrE _ _ kv
  by_cases hsk:opA cl v=Zi/\opC cl v=Zi
  ·obtain⟨hA,hB⟩:=hsk;rw[hA,hB]at hm2;refine gO (m0 hd<|qq (show ¬((2:J)=0) by decide)<|p9 (show ¬((2:J)=0) by decide)<|jq ((((v:I):J).tmod 2)==1) z j6<|m7 (Zp ((((v:I):J).tmod 2)==1) Zi cl.fOpen) i6 z<|kb hA<|t8 hw<|kp (show ¬((3:J)=0) by decide)<|wq (((opL v+cl.fN).tmod 3)==0) j6 z<|kb hB<|kn hv1 m5) ?_;exact AG (m:=n0) ⟨v+1,near,kv,hm2,kv,rfl,rfl⟩ (WK kx) kx (Zh _)
  ·have hm3:opF O cl bef (6-(v+1)) (v+1) (opS bef near (O (chrN cl.fChar*6+v)).reverse)=opM O cl bef:=by
    rw[<-hm2];cases hA:opA cl v with
    |false=>rfl
    |true=>
     cases hB:opC cl v with
     |false=>rfl
     |true=>exact Yq ⟨hA,hB⟩ hsk
   clear hm2;cases hA:opA cl v
   case' false=>
    refine gO (m0 hd<|qq (show ¬((2:J)=0) by decide)<|p9 (show ¬((2:J)=0) by decide)<|jq ((((v:I):J).tmod 2)==1) z j6<|m7 (Zp ((((v:I):J).tmod 2)==1) Zi cl.fOpen) i6 z<|kb hA z) ?_
   case' true=>
    have hB:opC cl v=false:=by
     cases hB:opC cl v with
     |false=>rfl
     |true=>exact Yq ⟨hA,hB⟩ hsk
    refine gO (m0 hd<|qq (show ¬((2:J)=0) by decide)<|p9 (show ¬((2:J)=0) by decide)<|jq ((((v:I):J).tmod 2)==1) z j6<|m7 (Zp ((((v:I):J).tmod 2)==1) Zi cl.fOpen) i6 z<|kb hA<|t8 hw<|kp (show ¬((3:J)=0) by decide)<|wq (((opL v+cl.fN).tmod 3)==0) j6 z<|kb hB z) ?_
   all_goals
    refine NXE 1 (opX ps els O prs c near cl [(9,jI (opL v)),(10,jI (((v:I):J).tmod 2)),(27,jI ((v:I):J))]) (λ_:Yr=>Y6) (λb=>Zp b (.exit 1) .normal) (λ_=>opX ps els O prs c (opS (el els c.toNat).fbefore near (O (chrN cl.fChar*6+v)).reverse) cl [(27,jI ((v:I):J))]) kx (WK kx) kx (op_tail ps els O prs c near cl v h1 hc hO) (λb _=>?_);rw[<-hbef];refine⟨kn hv1 m5,by cases b <;>kernel_rfl,?_⟩;cases b
    all_goals exact AG (m:=n0) ⟨v+1,_,kv,hm3,kv,rfl,rfl⟩ (WK kx) kx (Zh _)
 ·have hv6:v=6:=kv;subst hv6;have hd:Zf (((6:I):J)<6)=false:=rfl;have hm:near=opM O cl bef:=hm;rw[<-hm];refine gO (m0 hd z) ?_;refine Ir n8 kx ?_;exact eNs
structure ES where
 els:F Ym
 O:Ops
 prs:F AV
def esB(ps:F Zq)(s:ES):F (I×Xa):=stB ps s.els s.O s.prs
def esO(ps:F Zq)(s:ES)(c:J):Int:=opM s.O (el ps (pc s.els c).toNat) (bf s.els c)
def esP(ps:F Zq)(s:ES)(o c:J):ES:=⟨pr7 ps s.els o c s.els.length,λj=>exL (prL ps s.els o c s.els.length) (s.O j),s.prs++[prP s.els o c]⟩
def clM(ps:F Zq)(c:J):I->ES->ES
 |0,s=>s
 |n+1,s=>Zp (Zf (lf s.els c>0)) (Zp (Zf (esO ps s c>0)) (clM ps c n (esP ps s (esO ps s c) c)) s) s
def ClOk(ps:F Zq)(c:J):I->ES->Prop
  |0,s=>Ix s.els c/\¬ lf s.els c>0
  |n+1,s=>Ix s.els c/\(lf s.els c>0->((0<=pc s.els c/\pc s.els c<ps.length)/\(0<=(el ps (pc s.els c).toNat).fN/\(el ps (pc s.els c).toNat).fN<=1073741824)/\(∀i,(s.O i).length<=1073741824))/\
      (esO ps s c>0->(PrOk ps s.els (esO ps s c) c s.els.length/\s.els.length<274877906944/\s.prs.length<=274877906944)/\ClOk ps c n (esP ps s (esO ps s c) c)))
def clo_to(ps:F Zq)(c:J)(n:I)(s:ES)(h:ClOk ps c n s):Va1 Ze 200 [.ptr 1000 0,jI c] (esB ps s) [] Vav (esB ps (clM ps c n s)) []:=by
 refine bGs Tryz.func200 ?_;refine gO z ?_;refine LP (n:=n+1) (λN M S=>∃(m:I)(t:ES),ClOk ps c m t/\clM ps c m t=clM ps c n s/\m<N/\M=()/\S=sx 27 [(0,.ptr 1000 0),(1,jI c)] (esB ps t) []) kx ⟨n,s,h,rfl,kv,rfl,rfl⟩ (WK kx) ?_;rintro n0 M S ⟨m,t,hk,hm,hF0,rfl,rfl⟩;obtain⟨n0,rfl⟩:∃ k,n0=k+1:=⟨n0-1,kv⟩
 obtain⟨els,O,prs⟩:=t;have hi:Ix els c:=by cases m <;>exact hk.1
 have hec:=Vck els c hi.1 hi.2;cases hl:Zf (lf els c>0)with
 | false=>
  have hc:clM ps c m ⟨els,O,prs⟩=⟨els,O,prs⟩:=by
   cases m with
   |zero=>rfl
   |succ m=>unfold clM;simp only[hl,Z2]
  rw[<-hm,hc];refine gO (gq hi<|bq hec<|m0 hl z) ?_;refine Ir z kx ?_;exact eNs
 | true=>
  cases m with
  |zero=>exact Yq (Zr hl) hk.2
  | succ m=>
   obtain⟨⟨h1,h2,h3⟩,h4⟩:=hk.2 (Zr hl);have hop:=ope_to ps els O prs c hi h1 h2 h3;obtain⟨o,ho⟩:∃ o,o=esO ps ⟨els,O,prs⟩ c:=⟨_,rfl⟩
   rw[show opM O (clO ps els c) (el els c.toNat).fbefore=o from ho.symm]at hop;rw[<-ho]at h4;have hc:clM ps c (m+1) ⟨els,O,prs⟩=Zp (Zf (o>0)) (clM ps c m (esP ps ⟨els,O,prs⟩ o c)) ⟨els,O,prs⟩:=by
    rw[ho]
    conv=>lhs;unfold clM
    simp only[hl,Z1]
   cases hd:Zf (o>0)with
   |false=>
    rw[hc,hd,Z2]at hm;rw[<-hm];refine gO (gq hi<|bq hec<|m0 hl<|o8 hop Zt<|xq (b:= !(Zf (o>0))) (d:=Zi) (by rw[hd];rfl) z) ?_;refine Ir z kx ?_;exact eNs
   |true=>
    rw[hc,hd,Z1]at hm;obtain⟨⟨p1,p2,p3⟩,h5⟩:=h4 (Zr hd);have hpr:=pai_to ps els O prs o c els.length p1 p2 p3 h3;refine gO (gq hi<|bq hec<|m0 hl<|o8 hop Zt<|xq (b:= !(Zf (o>0))) (d:=V) (by rw[hd];rfl)<|tn 3<|kg hpr Zt z) ?_;exact AG (m:=n0) ⟨m,_,h5,hm,kv,rfl,rfl⟩ (WK kx) kx (Zh _)
end Go.Proofs.YthbpjmogdonlkaaGreatDoor
namespace Go.Eng
variable {P:Ye}
def isNil:SV->Yr
 | .nil=>Zi
 |_=>V
def tellS(S:St)(c:I):F (I×I×I×I)->St
 |[]=>S
 |(k,b,e,sz)::l=>tellS ((Vd0 S c k (.vs b 0)).addBox b (.vec e sz [])) c l
def okTell(S:St)(c:I):F (I×I×I×I)->Yr
 |[]=>Zi
 |(k,b,e,sz)::l=>isNil (Vgc S c k)&&(Zf (b<1000)||decide (2000<=b))&& !S.names b&&okTell ((Vd0 S c k (.vs b 0)).addBox b (.vec e sz [])) c l
def Vlm:∀(l:F (I×I×I×I))(S:St)(c:I),okTell S c l=Zi->Fb S (tellS S c l)
 |[],S,c,_=>λG w a hr=>⟨G,Q1 G w,hr,λ_ _=>rfl⟩
 | (k,b,e,sz)::l,S,c,h=>by
  simp only[okTell,Zk,Yc,Zu,Yb]at h;obtain⟨⟨⟨h1,h2⟩,h3⟩,h4⟩:=h;have h5:Vgc S c k=.nil:=by
   cases hc:Vgc S c k with
   |nil=>rfl
   |_=>rw[hc]at h1;cases h1
  exact Ghost.trans (Vln h5 h2 h3) (Vlm l _ c h4)
def TELLS{α:Type}{K:α->Qj->St->Prop}{M:α}{X:Cf}(c:I)(l:F (I×I×I×I))(h:okTell (stOf X) c l=Zi)(hn:Nx P K M (reSt X (tellS (stOf X) c l))):Nx P K M X:=Vpw (Vlm l _ c h) hn
end Go.Eng
namespace Go.Proofs.YthbpjmogdonlkaaGreatDoor
open Go Go.Eng
def stM(ps:F Zq)(n:I)(els:F Ym)(O:Ops)(C:I->F AV)(prs:F AV):F (I×Xa):=[(14,.cells 227 ([jL (ps.map Vb7),.vs 12 n]++((Zz 18).map (λi=>.vs (2010+i) (O i).length)++[.vs 2002 prs.length]))),(12,emB els),(2002,.vec 201 3 prs)]++(Zz 18).map (λi=>(2010+i,.vec 3 1 (C i)))
def opV(O:Ops):I->F AV:=λi=>(O i).map vI
def esM(ps:F Zq)(s:ES):F (I×Xa):=stM ps s.els.length s.els s.O (opV s.O) s.prs
def insL_to(ps:F Zq)(s:ES)(e:Ym)(hn:s.els.length<=274877906944)(h0:0<s.els.length)(hb:Ix s.els (bf s.els 0)):
  Va1 Ze 199 [.ptr 14 0,.av (cEm e),jI 0] (esM ps s) [] (jI ((s.els.length:I):J)) (esM ps ⟨insM s.els e 0,s.O,s.prs⟩) []:=
 Vcz kx (Vac (Vah (14,0) (1000,0) rfl) (Vac (Vah (12,0) (2001,0) rfl) (ins_to ps s.els s.O s.prs e 0 hn ⟨D2 _,kv⟩ hb)))
def cloL_to(ps:F Zq)(c:J)(n:I)(s:ES)(h:ClOk ps c n s):Va1 Ze 200 [.ptr 14 0,jI c] (esM ps s) [] Vav (esM ps (clM ps c n s)) []:=
 Vcz kx (Vac (Vah (14,0) (1000,0) rfl) (Vac (Vah (12,0) (2001,0) rfl) (clo_to ps c n s h)))
def oplL_to(ps:F Zq)(s:ES)(p:Zq)(hN:0<=p.fN):Va1 Ze 201 [.ptr 14 0,.av (Vby p)] (esM ps s) [] (.ptr 14 (2+opI p)) (esM ps s) []:=
 Vcz kx (Vac (Vah (14,0) (1000,0) rfl) (Vac (Vah (12,0) (2001,0) rfl) (opl_to ps s.els s.O s.prs p hN)))
def mtX(ps:F Zq)(s:ES)(sl:F (I×SV)):St:=sx 83 ([(3,.ptr 14 0)]++sl) (esM ps s) []
def mtZ(ps:F Zq)(v:I)(c:J)(sl:F (I×SV)):F (I×SV):=[(6,jI c),(15,jL (ps.map Vb7)),(16,jI ((lenM Vb7 ps:I):J)),(17,jI ((v:I):J))]++sl
def addO(s:ES)(i:I)(c:J):ES:=⟨s.els,updO s.O i (s.O i++[c]),s.prs⟩
def addO_V(O:Ops)(i:I)(c:J):(λj=>Zp (Qq j i) (((O i).map vI).take (O i).length++[vI c]) ((O j).map vI))=opV (updO O i (O i++[c])):=by
 funext j;unfold opV updO;cases Qq j i with
 |true=>
  simp only[Z1];rw[J3,Q8 ku];rfl
 |false=>rfl
def addO_L(O:Ops)(i:I)(c:J):(λj=>SV.vs (2010+j) (updO O i (O i++[c]) j).length)=(λj=>SV.vs (2010+j) (Zp (Qq j i) ((O i).length+1) (O j).length)):=by
 funext j;unfold updO;cases Qq j i with
 |true=>simp
 |false=>rfl
def mt11(ps:F Zq)(s:ES)(v i:I)(c:J)(hI:I18 i)(hn:(s.O i).length<=1073741824):W Ze (.region 11 (Vaa 11 Y2) V) (λe S1=>e=.normal/\Xu S1 (mtX ps (addO s i c) (mtZ ps v c []))) (mtX ps s (mtZ ps v c [(7,.ptr 14 (2+i))])):=by
 obtain⟨els,O,prs⟩:=s;have hn:(O i).length<=1073741824:=hn;have hu:D8 1 [vI c]:=by
  intro y hy;simp only[Zl,Zs,Yf]at hy;subst hy;exact⟨rfl,rfl⟩
 have hap:(O i).length<=((O i).map vI).length/\D8 1 [vI c]/\((O i).length+([vI c]:F AV).length)*8<=140737488355328:=⟨ku,hu,by simp;omega⟩
 have hw:∀ S1,Xu S1 (sx 83 ([(3,.ptr 14 0)]++mtZ ps v c []) ([(14,.cells 227 ([jL (ps.map Vb7),.vs 12 els.length]++((Zz 18).map (λj=>.vs (2010+j) (Zp (Qq j i) ((O i).length+1) (O j).length))++[.vs 2002 prs.length]))),(12,emB els),(2002,.vec 201 3 prs)]++(Zz 18).map (λj=>(2010+j,.vec 3 1 (Zp (Qq j i) (((O i).map vI).take (O i).length++[vI c]) ((O j).map vI))))) [])->Xu S1 (mtX ps (addO ⟨els,O,prs⟩ i c) (mtZ ps v c [])):=by
  intro S1 h;unfold mtX esM addO stM;rw[<-addO_V,addO_L];exact h
 refine WN ?_;refine GO (gq hu<|kp hap j6) (by repeat (obtain rfl|hI:=hI;kernel_rfl)) ?_;exact D6 .normal (by repeat (obtain rfl|hI:=hI;kernel_rfl)) (WK (by repeat (obtain rfl|hI:=hI;kernel_rfl))) ⟨rfl,hw _ (λ_ _ _ h=>h)⟩
end Go.Proofs.YthbpjmogdonlkaaGreatDoor
namespace Go.Eng
variable {P:Ye}
def nil21:Value:=.agg #[.slice Zw 0 0,.slice Zw 0 0,.slice Zw 0 0,.slice Zw 0 0,.slice Zw 0 0,.slice Zw 0 0,.slice Zw 0 0,.slice Zw 0 0,.slice Zw 0 0,.slice Zw 0 0,.slice Zw 0 0,.slice Zw 0 0,.slice Zw 0 0,.slice Zw 0 0,.slice Zw 0 0,.slice Zw 0 0,.slice Zw 0 0,.slice Zw 0 0,.slice Zw 0 0,.slice Zw 0 0,.slice Zw 0 0]
def WO_st21{ops:Yp Yz}{o1 o2:Yz}{rest:F Yz}{Q:St->Prop}{S:St}{t m1 m2 d1 d2 bt b2 n2:I}{l1:F AV}{pl:F (I×I)}
  (ho1:o1.op=.build t #[(0,.tmp m1),(1,.tmp m2)]) (hd1:o1.dst=H d1) (hg1:o1.guard=Zw) (ho2:o2.op=.box t (.tmp d1)) (hd2:o2.dst=H d2) (hg2:o2.guard=Zw)
  (hi:Van P t=H (21,bt,H nil21)) (hpl:Vfr P t=H pl) (hp0:pl[0]? =H (0,1)) (hp1:pl[1]? =H (1,1)) (hm1:S.fr[m1]? =H (.av (.sl l1))) (hm2:S.fr[m2]? =H (.vs b2 n2)) (hl1:d1<S.fr.length) (hid:d2<1000) (hn:(S.put (H d1) .junk).names d2=V)
  (hb2:b2≠d2)
  (h:WO P ops rest Q (((S.put (H d1) .junk).addBox d2 (.cells t ([.av (.sl l1),.vs b2 n2]++Z9 19 .nil))).put (H d2) (.ptr d2 0))):WO P ops (o1::o2::rest) Q S:=by
 intro more Q' G w a hr hq;have hsz:a.tmps.size=S.fr.length:=hr.size.symm;have r1:=hr.fr m1 _ hm1;have r2:=hr.fr m2 _ hm2;obtain⟨u1,eu1⟩:∃ u,a.eval (.tmp m1)=u:=⟨_,rfl⟩
 obtain⟨u2,eu2⟩:∃ u,a.eval (.tmp m2)=u:=⟨_,rfl⟩
 have r1':Q3 G w (.av (.sl l1)) u1:=by rw[<-eu1];exact r1
 have r2':Q3 G w (.vs b2 n2) u2:=by rw[<-eu2];exact r2
 obtain⟨a1,c1,es1,z1,rfl,_⟩:=id r1';have hv2:∃ ad k c,u2=.slice ad k c:=by
  rcases r2' with⟨_,h,_⟩|⟨blk,_,_,h,_⟩
  ·exact⟨_,_,_,h⟩
  ·exact⟨_,_,_,h⟩
 obtain⟨a2,k2,c2,rfl⟩:=hv2;obtain⟨arr,harr⟩:∃ arr:Yp Xx,arr=#[.slice a1 l1.length c1,.slice a2 k2 c2]++Y3 19 (.slice Zw 0 0):=⟨_,rfl⟩
 have hf:Instr.fill (λi=>pl[i]?) nil21.cells [(0,.slice a1 l1.length c1),(1,.slice a2 k2 c2)]=H arr:=by
  rw[harr];have h0:Instr.fill (λi=>([(0,1),(1,1)]:F (I×I))[i]?) nil21.cells [(0,.slice a1 l1.length c1),(1,.slice a2 k2 c2)]=H (#[.slice a1 l1.length c1,.slice a2 k2 c2]++Y3 19 (.slice Zw 0 0)):=kx;refine Vi1 (p2:=λi=>pl[i]?) (λi q hq=>?_) _ _ _ h0
  match i,hq with
  |0,hq=>rw[hp0];exact hq
  |1,hq=>rw[hp1];exact hq
  |i+2,hq=>simp at hq
 have x1:(execOp a.eval o1).run P w=.ok (.value (.agg arr)) w:=by
  unfold Vfr at hpl
  split at hpl
  ·rename_i fs hu;have hmm:=run_places w fs.toList _ hpl;have hm2:(fs.mapM (λf=>do pure (f.offset, <-sizeOf f.type)):Sem (Yp (I×I))).run P w=.ok pl.toArray w:=by
    rw[Qk];simp only[Dz,hmm,Qn]
   simp only[bind_pure_comp]at hm2;simp[execOp,ho1,Instr.build,Var hi,Va0 hu,hm2,eu1,eu2,hf]
  ·simp at hpl
 simp only[Y8,wpList];rw[Yu (Vat hg1 a)];refine .inl ?_;unfold Ds;rw[x1,Xd,hd1];have hr1:Fc G w (S.put (H d1) .junk) (a.put (H d1) (.agg arr)):=hr.put (H d1) Zt;have ed1:(a.put (H d1) (.agg arr)).eval (.tmp d1)=.agg arr:=Nb_same kv;generalize a.put (H d1) (.agg arr)=a9 at hr1 ed1 ⊢;rw[Yu (Vat hg2 _)];refine .inl ?_
 try unfold Ds
 have hnil:∀ n,Xs G w (Z9 n .nil) (Z9 n (.slice Zw 0 0)):=by
  intro n
  induction n with
  |zero=>rfl
  |succ n ih=>exact⟨_,_,rfl,rfl,ih⟩
 have hs:Xs G w ([.av (.sl l1),.vs b2 n2]++Z9 19 .nil) arr.toList:=by
  rw[harr]
  show Xs G w (.av (.sl l1):: .vs b2 n2::Z9 19 .nil) (.slice a1 l1.length c1:: .slice a2 k2 c2::Z9 19 (.slice Zw 0 0));exact⟨_,_,rfl,r1',_,_,rfl,r2',hnil 19⟩
 obtain⟨e1,e2,e3⟩:=hr1.newBox hn t hs (by
  intro s hs;simp only[Y8,J2,Zl]at hs;rcases hs with rfl|rfl|hs
  ·rfl
  ·simp[SV.names,hb2]
  ·rw[Qx hs];rfl) (by
  intro x hx;rw[harr]at hx;simp only[Array.toList_append,Y8,J2,Zl,Array.toList_replicate]at hx;rcases hx with rfl|rfl|hx
  ·rfl
  ·rfl
  ·rw[Qx hx];rfl)
 have x2:(execOp a9.eval o2).run P w=.ok (.value (.pointer (H ⟨w.heap.size,0,Zw⟩))) (w.alloc (.cells arr.toList.toArray t)):=by
  simp[execOp,ho2,ed1,Instr.box,newVar,newRow,Value.cells]
 rw[x2,Xd,hd2];have hr2:=e2.put (H d2) e3;exact h more Q' _ _ _ hr2 (λS' G2 a2 w4 p1 p2 p3 p4=>hq S' G2 a2 w4 p1 (e1.trans p2) p3 (λi hi'=>(p4 i hi').trans (by simp only[Dw];rw[Z3 (by intro h;simp only[Zy]at h;omega)])))
end Go.Eng
namespace Go.Proofs.YthbpjmogdonlkaaGreatDoor
section
open Go Go.Eng
def em0:DEm:=default
def emZ:Value:=.agg #[.int .i64 0,.string ⟨#[]⟩,.string ⟨#[]⟩,.string ⟨#[]⟩,.string ⟨#[]⟩,.slice Zw 0 0,.slice Zw 0 0,.slice Zw 0 0,.slice Zw 0 0,.slice Zw 0 0,.bool V,.int .i64 0,.int .i64 0,.int .i64 0,.int .i64 0]
def emZ_rep(U:I->I)(w:Xc):D9 U w (aEm em0) emZ:=by
 rw[aEm_eq];have hn:D9 U w (.sl []) (.slice Zw 0 0):=⟨Zw,0,[],0,rfl,rfl,ku,ku,ku,ku,.inl rfl⟩
 refine⟨_,rfl,?_,?_⟩
 ·exact⟨_,_,rfl,⟨rfl,rfl⟩,_,_,rfl,⟨rfl,rfl⟩,_,_,rfl,⟨rfl,rfl⟩,_,_,rfl,⟨rfl,rfl⟩,_,_,rfl,⟨rfl,rfl⟩,_,_,rfl,hn,_,_,rfl,hn,_,_,rfl,hn,_,_,rfl,hn,_,_,rfl,hn,_,_,rfl,⟨rfl,rfl⟩,_,_,rfl,⟨rfl,rfl⟩,_,_,rfl,⟨rfl,rfl⟩,_,_,rfl,⟨rfl,rfl⟩,_,_,rfl,⟨rfl,rfl⟩,rfl⟩
 ·intro x hx;simp only[Zl,Zs,Yf]at hx;rcases hx with rfl|rfl|rfl|rfl|rfl|rfl|rfl|rfl|rfl|rfl|rfl|rfl|rfl|rfl|rfl <;>rfl
def em_box(n:I)(h1:1<=n)(id:I)(G:Gh)(w:Xc)(blk:I)(hb:blk<w.heap.size)(ho:G.ow (id,0)=H blk)(hw:w.heap[blk]? =H (.cells (madeCells emZ.cells (n*15)) 230 (0,0)))(hU:G.U blk=0)(hc:G.cp blk=n):Dr G w id (.vec 230 15 [aEm em0]):=by
 obtain⟨rest,hr⟩:=made_head emZ.cells n h1;refine .inr ⟨blk,_,[emZ],hb,ho,hw,hU,?_,⟨_,_,rfl,emZ_rep _ _,rfl⟩,?_,⟨rest,?_⟩,?_⟩
 ·rw[hc,size_madeCells];exact Zn _
 ·intro x hx;simp only[Zl,Zs,Yf]at hx;subst hx;rfl
 ·have:(madeCells emZ.cells (n*15)).toList=emZ.cells.toList++rest:=hr;rw[this];rfl
 ·intro c hc;have hc2:c∈emZ.cells.toList:=by simpa[Va3]using hc
  simp only[emZ,Value.cells,Zl,Zs,Yf]at hc2;rcases hc2 with rfl|rfl|rfl|rfl|rfl|rfl|rfl|rfl|rfl|rfl|rfl|rfl|rfl|rfl|rfl <;>rfl
def mtS0(ps:F Zq):St:=sx 83 [(0,jL (ps.map Vb7)),(3,.ptr 14 0)] [(14,.cells 227 ([jL (ps.map Vb7),.vs 12 1]++Z9 19 .nil)),(12,.vec 230 15 [aEm em0])] []
def mt1(ps:F Zq)(hn:ps.length<=1073741824):W Ze (.region 1 (Vaa 1 Y2) V) (λe S1=>e=.normal/\Xu S1 (mtS0 ps)) (sx 83 [(0,jL (ps.map Vb7))] [] []):=by
 have hw:IntKind.i64.wrap ((((ps.map Vb7).length:I):J)+1)=((ps.length+1:I):J):=wrE _ _ (by simp;omega);refine Vam ?_;rw[show(Vaa 1 Y2).toList=[regO 1 Y2 0,regO 1 Y2 1,regO 1 Y2 2,regO 1 Y2 3,regO 1 Y2 4,regO 1 Y2 5,regO 1 Y2 6,regO 1 Y2 7] by kernel_rfl];refine Vas (jL (ps.map Vb7)) 8 kx kx ?_;refine Vas (jL (ps.map Vb7)) 9 kx kx ?_;refine Vas (jI (((ps.map Vb7).length:I):J)) 10 kx kx ?_;refine Vas (jI (IntKind.i64.wrap ((((ps.map Vb7).length:I):J)+1))) 11 kx kx ?_;rw[hw];refine Vbs (.vs 12 1) 12 kx (Vhm (x:=.const (.int .i64 1)) (y:=.tmp 11) (t:=222) (e:=230) (sz:=15) (bt:=232) (z:=emZ) (m:=1) (n:=ps.length+1) (id:=12) (k:=.i64) (k':=.i64) (X:=.vec 230 15 [aEm em0]) kx kx kx kv kx kx kv kv gj kx (λG w blk h1 h2 h3 h4 h5=>em_box (ps.length+1) kv 12 G w blk h1 h2 h3 h4 h5)) ?_;refine WO_st21 (t:=227) (m1:=8) (m2:=12) (d1:=13) (d2:=14) (bt:=504) (b2:=12) (n2:=1) (l1:=ps.map Vb7) (pl:=[(0,1),(1,1),(2,18),(20,1)]) kx kx kx kx kx kx kx kx rfl rfl kx kx (Nat.lt_of_lt_of_eq (by decide:13<83) kx) gj kx gj ?_;refine Vas (.ptr 14 0) 3 kx kx ?_;exact Vbl rfl ⟨rfl,WK kx⟩
def zIn:DInline:=Xo 0 ⟨#[]⟩ ⟨#[]⟩ ⟨#[]⟩ ⟨⟨#[]⟩,[],[]⟩ [] [] []
def rnEm(i n:J):DEm:=DEm.mk zIn Zi i n 0 0
def insS(s:ES)(e:Ym):ES:=⟨insM s.els e 0,s.O,s.prs⟩
def lenS(s:ES):Int:=((s.els.length:I):J)
def mtA(ps:F Zq)(v:I)(p:Zq)(s:ES):ES:=Zp p.fClose (clM ps (lenS s) p.fN.toNat (insS s (rnEm v p.fN))) (insS s (rnEm v p.fN))
def mtO(p:Zq)(s:ES)(c:J):Bool:=Zp p.fOpen (Zf (lf s.els c>0)) V
def Vf9(p:Zq):Bool:=Zp ((p.fKind:J)==0) (Zp ((p.fInline.fKind:J) !=1) Zi (!eqs p.fInline.fText ⟨#[]⟩)) V
def mtS(ps:F Zq)(v:I)(p:Zq)(s:ES):ES:=Zp (isrP p) (Zp (mtO p (mtA ps v p s) (lenS s)) (addO (mtA ps v p s) (opI p) (lenS s)) (mtA ps v p s)) (Zp (Vf9 p) (insS s (mkE p.fInline)) s)
def mtI:ES:=⟨[em0],λ_=>[],[]⟩
def mtR(ps:F Zq):I->ES
 |0=>mtI
 |v+1=>mtS ps v (el ps v) (mtR ps v)
structure MtOk (ps:F Zq) (v:I) (p:Zq) (s:ES):Prop where
 len:s.els.length<=274877906944
 pos:0<s.els.length
 bef:Ix s.els (bf s.els 0)
 clo:isrP p=Zi->p.fClose=Zi->ClOk ps (lenS s) p.fN.toNat (insS s (rnEm v p.fN))
 idx:isrP p=Zi->Ix (mtA ps v p s).els (lenS s)
 num:isrP p=Zi->0<=p.fN
 ops:isrP p=Zi->(((mtA ps v p s).O (opI p)).length<=1073741824/\I18 (opI p))
def mtc_to(ps:F Zq)(hn:ps.length<=1073741824)(hk:∀ v,v<ps.length->MtOk ps v (el ps v) (mtR ps v)):Vml Ze 147 [jL (ps.map Vb7)] (esM ps (mtR ps ps.length)) (.ptr 14 0):=by
 have hlq:=Va6 Vb7 ps;refine BEGn Tryz.func147 kx ?_;refine gO (tn 1<|kq 1 z) ?_;refine Jo (mtS0 ps) (kq 2 z) kx ?_ kx ?_
 ·refine Vaj (S':=sx 83 [(0,jL (ps.map Vb7))] [] []) (WK kx) ?_;exact Val (c':=.region 1 (Vaa 1 Y2) V) kx (mt1 ps kv)
 refine TELLS 14 ((Zz 18).map (λi=>(2+i,2010+i,3,1))++[(20,2002,201,3)]) kx ?_;refine gO i6 ?_;refine LP (n:=ps.length+1) (λN M S=>∃(v:I)(s:ES)(c:J),v<=ps.length/\s=mtR ps v/\ps.length-v<N/\M=()/\S=mtX ps s [(15,jL (ps.map Vb7)),(16,jI ((lenM Vb7 ps:I):J)),(17,jI ((v:I):J))]) kx ⟨0,mtI,0,kv,rfl,kv,rfl,rfl⟩ (WK kx) ?_;rintro n0 M S ⟨v,s,c,hv,hs,hF0,rfl,rfl⟩;obtain⟨n0,rfl⟩:∃ k,n0=k+1:=⟨n0-1,kv⟩
 by_cases h1:v<ps.length
 ·have hd:Zf (((v:I):J)<((lenM Vb7 ps:I):J))=true:=dT kv;have hep:=el_aPiece ps v h1;have hO:=hk v h1;rw[<-hs]at hO;have hi:=isrP_to (el ps v);have hs2:mtR ps (v+1)=mtS ps v (el ps v) s:=by rw[hs];rfl
  have hwr:IntKind.i64.wrap (((v:I):J)+1)=((v+1:I):J):=wrE _ _ kv;generalize el ps v=p at hep hO hi hs2;cases hr:isrP p with
  | false=>
   cases hkp:Vf9 p with
   |true=>
    have hins:=insL_to ps s (mkE p.fInline) hO.len hO.pos hO.bef;have e:mtR ps (v+1)=insS s (mkE p.fInline):=by rw[hs2,mtS,hr,hkp];rfl
    refine gO (m0 hd<|bq hep<|vq hi<|m0 hr<|j8 ((p.fKind:J)==0) (jq ((p.fInline.fKind:J) !=1) z i7 z) z<|m0 hkp<|tn 4<|kg hins Zt<|kn hwr m5) ?_;exact AG (m:=n0) ⟨v+1,insS s (mkE p.fInline),0,kv,e.symm,kv,rfl,rfl⟩ (WK kx) kx (Zh _)
   |false=>
    have e:mtR ps (v+1)=s:=by rw[hs2,mtS,hr,hkp];rfl
    refine gO (m0 hd<|bq hep<|vq hi<|m0 hr<|j8 ((p.fKind:J)==0) (jq ((p.fInline.fKind:J) !=1) z i7 z) z<|m0 hkp<|kn hwr m5) ?_;exact AG (m:=n0) ⟨v+1,s,0,kv,e.symm,kv,rfl,rfl⟩ (WK kx) kx (Zh _)
  | true=>
   have hins:=insL_to ps s (rnEm v p.fN) hO.len hO.pos hO.bef;obtain⟨s1,hs1⟩:∃ t,t=insS s (rnEm v p.fN):=⟨_,rfl⟩
   rw[show(⟨insM s.els (rnEm v p.fN) 0,s.O,s.prs⟩:ES)=s1 from hs1.symm]at hins;have hclo:=hO.clo hr;have hidx:=hO.idx hr;obtain⟨hops,hI⟩:=hO.ops hr;have hnum:=hO.num hr;obtain⟨c,hc⟩:∃ c,c=lenS s:=⟨_,rfl⟩
   rw[show((s.els.length:I):J)=c from hc.symm]at hins;rw[<-hc]at hclo hidx;rw[<-hs1]at hclo;obtain⟨s2,hs2'⟩:∃ t,t=mtA ps v p s:=⟨_,rfl⟩
   rw[<-hs2']at hidx hops;have he2:mtR ps (v+1)=Zp (mtO p s2 c) (addO s2 (opI p) c) s2:=by rw[hs2,mtS,hr,Z1, <-hs2', <-hc]
   unfold mtA at hs2';rw[<-hs1, <-hc]at hs2';have hel:=Vck s2.els c hidx.1 hidx.2;have hopl:=oplL_to ps s2 p hnum;cases hcl:p.fClose
   case' true=>
    have hclo:=cloL_to ps c p.fN.toNat s1 (hclo hcl);rw[hcl,Z1]at hs2';rw[<-hs2']at hclo;refine gO (m0 hd<|bq hep<|vq hi<|m0 hr<|tn 5<|kg hins Zt<|w7 hcl<|o8 hclo Zt<|kq 9 z) ?_
   case' false=>
    rw[hcl,Z2]at hs2';subst hs2';refine gO (m0 hd<|bq hep<|vq hi<|m0 hr<|tn 5<|kg hins Zt<|w7 hcl<|kq 9 z) ?_
   all_goals
    cases ho:mtO p s2 c with
    |true=>
     rw[ho,Z1]at he2;refine gO (t7 p.fOpen (tn 5<|hp (λ_=>hidx)<|tn 1<|he (λ_=>hel) m5) z<|kb ho<|o8 hopl Zt<|kq 11 m5) ?_;refine Jo (mtX ps (addO s2 (opI p) c) (mtZ ps v c [])) (kn hwr m5) kx ?_ kx ?_
     ·refine Vaj (S':=mtX ps s2 (mtZ ps v c [(7,.ptr 14 (2+opI p))])) (WK kx) ?_;exact Val (c':=.region 11 (Vaa 11 Y2) V) kx (mt11 ps s2 v (opI p) c hI hops)
     exact AG (m:=n0) ⟨v+1,addO s2 (opI p) c,0,kv,he2.symm,kv,rfl,rfl⟩ (WK kx) kx (Zh _)
    |false=>
     rw[ho,Z2]at he2;refine gO (t7 p.fOpen (tn 5<|hp (λ_=>hidx)<|tn 1<|he (λ_=>hel) m5) z<|kb ho<|kn hwr m5) ?_;exact AG (m:=n0) ⟨v+1,s2,0,kv,he2.symm,kv,rfl,rfl⟩ (WK kx) kx (Zh _)
 ·have hd:Zf (((v:I):J)<((lenM Vb7 ps:I):J))=false:=dF kv;have hvn:v=ps.length:=kv;subst hvn;rw[<-hs];refine gO (m0 hd z) ?_;refine Ir j6 kx ?_;exact eNs
end
section
open Go Go.Eng
def el_set{α:Type}[Inhabited α]{l:F α}{i j:I}{a:α}(h:i<l.length):el (l.set i a) j=if j=i then a else el l j:=by
 unfold el
 by_cases hj:j=i
 ·subst hj;rw[List.getElem?_set_self h,Yu rfl];rfl
 ·rw[List.getElem?_set_ne (λe=>hj e.symm),Z3 hj]
def el_snoc{α:Type}[Inhabited α]{l:F α}{j:I}{a:α}:el (l++[a]) j=if j=l.length then a else el l j:=by
 unfold el
 by_cases hj:j=l.length
 ·subst hj;simp
 ·rw[Z3 hj];rcases Q7 j l.length with h|h
  ·rw[Xj h]
  ·rw[Xe (l:=l) h,Xe (by simp;omega)]
def Lk(els:F Ym)(a b:I):Prop:=(el els a).fnext=b/\(el els b).fbefore=a
def Vc1(els:F Ym):F I->Prop
 |a::b::l=>Lk els a b/\Vc1 els (b::l)
 |_=>Y6
def Vdf{els:F Ym}:∀(X:F I)(a b:I)(Y:F I),Vc1 els (X++a::b::Y) ↔ Vc1 els (X++[a])/\Lk els a b/\Vc1 els (b::Y)
 |[],a,b,Y=>by simp[Vc1]
 |[x],a,b,Y=>by simp[Vc1,and_assoc]
 |x::y::X,a,b,Y=>by
  have:=Vdf (els:=els) (y::X) a b Y;simp only[Y8]at this ⊢;simp only[Vc1];rw[this,and_assoc]
def Ve2{els:F Ym}:∀(X:F I)(a:I)(M:F I),Vc1 els (X++a::M)->Vc1 els (X++[a])/\Vc1 els (a::M)
 |X,a,[],h=>⟨h,Zt⟩
 |X,a,b::M,h=>by
  obtain⟨h1,h2,h3⟩:=(Vdf X a b M).1 h;exact⟨h1,h2,h3⟩
def Vcb{els els':F Ym}:∀(L:F I),Vc1 els L->(∀x∈L.dropLast,(el els' x).fnext=(el els x).fnext)->(∀y∈L.tail,(el els' y).fbefore=(el els y).fbefore)->Vc1 els' L
 |[],_,_,_=>trivial
 |[_],_,_,_=>trivial
 |a::b::l,h,h1,h2=>by
  obtain⟨⟨l1,l2⟩,l3⟩:=h;refine⟨⟨(h1 a ku).trans l1,(h2 b ku).trans l2⟩,Vcb (b::l) l3 (λx hx=>h1 x ?_) (λy hy=>h2 y ?_)⟩
  ·rw[Yt ku];exact List.mem_cons_of_mem _ hx
  ·simp only[Dc,Zl]at hy ⊢;exact .inr hy
section
variable {els:F Ym} {a b:I}
def Vol(ha:a<els.length)(v:J)(j:I):el (setN els a v) j=if j=a then{el els a with fnext:=v}else el els j:=el_set ha
def setP_el(ha:a<els.length)(v:J)(j:I):el (setP els a v) j=if j=a then{el els a with fbefore:=v}else el els j:=el_set ha
def Vom(ha:a<els.length)(v:J)(j:I):el (setL els a v) j=if j=a then{el els a with fleft:=v}else el els j:=el_set ha
def ctM(els:F Ym)(a b:I):F DEm:=setP (setN els a b) b a
def ctM_len:(ctM els a b).length=els.length:=by simp[ctM,setP,setN,Vcf]
def Vlz(ha:a<els.length)(hb:b<els.length)(j:I):el (ctM els a b) j={el els j with fnext:=if j=a then(b:J)else(el els j).fnext,fbefore:=if j=b then(a:J)else(el els j).fbefore}:=by
 unfold ctM;rw[setP_el (by rw[setN,Vcf];exact hb),Vol ha,Vol ha]
 by_cases h1:j=b
 ·subst h1
  by_cases h2:j=a
  ·subst h2;simp
  ·simp[h2]
 ·by_cases h2:j=a
  ·subst h2;simp[h1]
  ·simp[h1,h2]
def insM_el{e:Ym}{p:I}(hb:b<els.length)(hp:p<els.length)(hpb:(el els b).fbefore=p)(j:I):el (insM els e b) j=if j=els.length then{e with fbefore:=p,fnext:=b}else{el els j with fnext:=if j=p then(els.length:J)else(el els j).fnext,fbefore:=if j=b then(els.length:J)else(el els j).fbefore}:=by
 unfold insM;rw[show((b:I):J).toNat=b from rfl,hpb,show((p:I):J).toNat=p from rfl];have l1:(els++[insE els e b]).length=els.length+1:=ku;rw[setP_el (by rw[setN,Vcf,l1];omega),Vol (by rw[l1];omega),Vol (by rw[l1];omega)];simp only[el_snoc,show ¬p=els.length by omega,show ¬b=els.length by omega,Ja];have hE:insE els e b={e with fbefore:=(p:J),fnext:=(b:J)}:=by unfold insE;rw[show((b:I):J).toNat=b from rfl,hpb]
 rw[hE]
 by_cases h0:j=els.length
 ·subst h0;simp[show ¬els.length=b by omega,show ¬els.length=p by omega]
 ·simp only[h0,Ja]
  by_cases h1:j=b
  ·subst h1
   by_cases h2:j=p
   ·subst h2;simp
   ·simp[h2]
  ·by_cases h2:j=p
   ·subst h2;simp[h1]
   ·simp[h1,h2]
end
def Vea{X:F I}{b:I}{Y:F I}:(X++b::Y).dropLast=X++(b::Y).dropLast:=List.dropLast_append_of_ne_nil ku
def linked_cut{els:F Ym}{X M Y:F I}{a b:I}(ha:a<els.length)(hb:b<els.length)(h:Vc1 els (X++a::(M++b::Y)))(hs:(X++a::(M++b::Y)).dropLast.Nodup)(ht:(X++a::(M++b::Y)).tail.Nodup):Vc1 (ctM els a b) (X++a::b::Y):=by
 obtain⟨h1,h2⟩:=Ve2 X a (M++b::Y) h;have h3:Vc1 els (b::Y):=by
  have:=Ve2 (a::M) b Y (by simpa using h2);exact this.2
 rw[Vea,show a::(M++b::Y)=(a::M)++b::Y from rfl,Vea,Yn]at hs;obtain⟨_,s2,s3⟩:=hs;have hsa:a ∉ X:=λhx=>s3 a hx a ku rfl
 have hsb:a ∉ (b::Y).dropLast:=λhx=>by
  rw[Y8,Xn]at s2;exact s2.1 (List.mem_append_right _ hx)
 have ht2:b ∉ (X++[a]).tail/\b ∉ Y:=by
  have e:(X++a::(M++b::Y)).tail=(X++[a]).tail++(M++b::Y):=by cases X <;>simp
  rw[e,Yn]at ht;obtain⟨_,t2,t3⟩:=ht;refine⟨λhx=>t3 b hx b ku rfl,λhx=>?_⟩;rw[Yn,Xn]at t2;exact t2.2.1.1 hx
 refine(Vdf X a b Y).2 ⟨Vcb _ h1 (λx hx=>?_) (λy hy=>?_),⟨?_,?_⟩,Vcb _ h3 (λx hx=>?_) (λy hy=>?_)⟩
 ·rw[Vlz ha hb];have:x≠a:=λe=>hsa (by rw[<-e];simpa using hx)
  simp[this]
 ·rw[Vlz ha hb];have:y≠b:=λe=>ht2.1 (by rw[<-e];exact hy)
  simp[this]
 ·rw[Vlz ha hb];simp
 ·rw[Vlz ha hb];simp
 ·rw[Vlz ha hb];have:x≠a:=λe=>hsb (by rw[<-e];exact hx)
  simp[this]
 ·rw[Vlz ha hb];have:y≠b:=λe=>ht2.2 (by rw[<-e];exact hy)
  simp[this]
def linked_ins{els:F Ym}{X Y:F I}{a b:I}{e:Ym}(ha:a<els.length)(hb:b<els.length)(hlt:∀ x∈X++a::b::Y,x<els.length)(h:Vc1 els (X++a::b::Y))(hs:(X++a::b::Y).dropLast.Nodup)(ht:(X++a::b::Y).tail.Nodup):Vc1 (insM els e b) (X++a::els.length::b::Y):=by
 obtain⟨h1,⟨h2,h2'⟩,h3⟩:=(Vdf X a b Y).1 h;have hel:=λj=>insM_el (e:=e) hb ha h2' j
 rw[Vea,Yn]at hs;obtain⟨_,s2,s3⟩:=hs;have hsa:a ∉ X:=λhx=>s3 a hx a ku rfl
 have hsb:a ∉ (b::Y).dropLast:=λhx=>by
  rw[Yt ku,Xn]at s2;exact s2.1 hx
 have ht2:b ∉ (X++[a]).tail/\b ∉ Y:=by
  have e:(X++a::b::Y).tail=(X++[a]).tail++b::Y:=by cases X <;>simp
  rw[e,Yn]at ht;obtain⟨_,t2,t3⟩:=ht;exact⟨λhx=>t3 b hx b ku rfl,(Xn.1 t2).1⟩
 have hnk:∀ x∈X++a::b::Y,x≠els.length:=λx hx e=>by have:=hlt x hx;omega
 refine(Vdf X a els.length (b::Y)).2 ⟨Vcb _ h1 (λx hx=>?_) (λy hy=>?_),⟨?_,?_⟩,⟨?_,?_⟩,Vcb _ h3 (λx hx=>?_) (λy hy=>?_)⟩
 ·have hx:x∈X:=by simpa using hx
  have h1:x≠a:=λe=>hsa (by rw[<-e];exact hx)
  rw[hel,Z3 (hnk x (by simp[hx]))];simp[h1]
 ·have h1:y≠b:=λe=>ht2.1 (by rw[<-e];exact hy)
  have hy2:=Ig hy;rw[hel,Z3 (hnk y (by simp only[Yk,Zl,Zs,Yf]at hy2 ⊢;rcases hy2 with q|q <;>simp[q]))];simp[h1]
 ·rw[hel,Z3 (hnk a ku)];simp
 ·rw[hel,Yu rfl]
 ·rw[hel,Yu rfl]
 ·rw[hel,Z3 (hnk b ku)];simp
 ·have h1:x≠a:=λe=>hsb (by rw[<-e];exact hx)
  have hx2:=Ii _ hx;rw[hel,Z3 (hnk x (by simp only[Yk,Zl]at hx2 ⊢;rcases hx2 with q|q <;>simp[q]))];simp[h1]
 ·have h1:y≠b:=λe=>ht2.2 (by rw[<-e];exact hy)
  rw[hel,Z3 (hnk y (by simp only[Dc]at hy;simp[hy]))];simp[h1]
end
section
open Go Go.Eng
structure RingL (els:F Ym) (L:F I):Prop where
 lk:Vc1 els L
 hs:L.dropLast.Nodup
 ht:L.tail.Nodup
 lt:∀ x∈L,x<els.length
def Vqx{X Y:F I}{k:I}(h:(X++Y).Nodup)(hk:k ∉ X++Y):(X++k::Y).Nodup:=by
 rw[List.perm_middle.nodup_iff,Xn];exact⟨hk,h⟩
def Vev{X:F I}{a:I}{Y:F I}:(X++a::Y).tail=(X++[a]).tail++Y:=by cases X <;>simp
def RingL.cut{els:F Ym}{X M Y:F I}{a b:I}(h:RingL els (X++a::(M++b::Y))):RingL (ctM els a b) (X++a::b::Y):=by
 have ha:a<els.length:=h.lt a ku;have hb:b<els.length:=h.lt b ku;refine⟨linked_cut ha hb h.lk h.hs h.ht,?_,?_,λx hx=>?_⟩
 ·have h1:=h.hs;rw[Vea,show a::(M++b::Y)=(a::M)++b::Y from rfl,Vea]at h1;rw[Vea,Yt ku];refine h1.sublist (Qy ?_ X);rw[Y8];exact(Qf M _).cons_cons a
 ·have h1:=h.ht;rw[Vev]at h1 ⊢;exact h1.sublist (Qy (Qf M _) _)
 ·rw[ctM_len];refine h.lt x ?_;simp only[Yk,Zl]at hx ⊢;rcases hx with q|q|q|q
  ·exact .inl q
  ·exact .inr (.inl q)
  ·exact .inr (.inr (.inr (.inl q)))
  ·exact .inr (.inr (.inr (.inr q)))
def RingL.ins{els:F Ym}{X Y:F I}{a b:I}(h:RingL els (X++a::b::Y))(e:Ym):RingL (insM els e b) (X++a::els.length::b::Y):=by
 have ha:a<els.length:=h.lt a ku;have hb:b<els.length:=h.lt b ku;have hk:els.length ∉ X++a::b::Y:=λhx=>by have:=h.lt _ hx;omega
 refine⟨linked_ins ha hb h.lt h.lk h.hs h.ht,?_,?_,λx hx=>?_⟩
 ·have h1:=h.hs;rw[show X++a::b::Y=(X++[a])++b::Y by simp,Vea]at h1;rw[show X++a::els.length::b::Y=(X++[a])++els.length::b::Y by simp,Vea,Yt ku];refine Vqx h1 (λhx=>hk ?_);rcases Yk.1 hx with q|q
  ·simp only[Yk,Zl,Zs,Yf]at q;rcases q with q|q <;>simp[q]
  ·have:=Ii _ q;simp only[Zl]at this;rcases this with q|q <;>simp[q]
 ·have h1:=h.ht;rw[Vev]at h1 ⊢;refine Vqx h1 (λhx=>hk ?_);rcases Yk.1 hx with q|q
  ·have:=Ig q;simp only[Yk,Zl,Zs,Yf]at this;rcases this with q|q <;>simp[q]
  ·simp only[Zl]at q;rcases q with q|q <;>simp[q]
 ·rw[Vhz];have:x=els.length\/x∈X++a::b::Y:=by
   simp only[Yk,Zl]at hx ⊢;rcases hx with q|q|q|q|q <;>simp[q]
  rcases this with rfl|q
  ·omega
  ·have:=h.lt x q;omega
def RingL.setL{els:F Ym}{L:F I}(h:RingL els L){k:I}(hk:k<els.length)(v:J):RingL (setL els k v) L:=by
 have hel:=λj=>Vom hk v j
 refine⟨Vcb L h.lk (λx _=>?_) (λy _=>?_),h.hs,h.ht,λx hx=>by rw[Go.Proofs.YthbpjmogdonlkaaGreatDoor.setL,Vcf];exact h.lt x hx⟩
 ·rw[hel];split
  ·rename_i e;rw[e]
  ·rfl
 ·rw[hel];split
  ·rename_i e;rw[e]
  ·rfl
def Sm(x y:Ym):Prop:=x.fin=y.fin/\x.frun=y.frun/\x.fpiece=y.fpiece/\x.fleft=y.fleft
def Sm.trans{x y w:Ym}(h:Sm x y)(k:Sm y w):Sm x w:=⟨h.1.trans k.1,h.2.1.trans k.2.1,h.2.2.1.trans k.2.2.1,h.2.2.2.trans k.2.2.2⟩
def Sm.refl(x:Ym):Sm x x:=⟨rfl,rfl,rfl,rfl⟩
def ctM_sm{els:F Ym}{a b:I}(ha:a<els.length)(hb:b<els.length)(j:I):Sm (el (ctM els a b) j) (el els j):=by rw[Vlz ha hb];exact⟨rfl,rfl,rfl,rfl⟩
def insM_sm{els:F Ym}{e:Ym}{a b:I}(ha:a<els.length)(hb:b<els.length)(h:(el els b).fbefore=a){j:I}(hj:j≠els.length):Sm (el (insM els e b) j) (el els j):=by rw[insM_el hb ha h,Z3 hj];exact⟨rfl,rfl,rfl,rfl⟩
def insM_new{els:F Ym}{e:Ym}{a b:I}(ha:a<els.length)(hb:b<els.length)(h:(el els b).fbefore=a):Sm (el (insM els e b) els.length) e:=by rw[insM_el hb ha h,Yu rfl];exact⟨rfl,rfl,rfl,rfl⟩
def RingL.at{els:F Ym}{X Y:F I}{a b:I}(h:RingL els (X++a::b::Y)):(el els a).fnext=b/\(el els b).fbefore=a:=((Vdf X a b Y).1 h.lk).2.1
def RingL.rem{els:F Ym}{X Y:F I}{a k b:I}(h:RingL els (X++a::k::b::Y)):remM els k=ctM els a b/\RingL (remM els k) (X++a::b::Y):=by
 have h1:=h.at
 have h2:=RingL.at (X:=X++[a]) (a:=k) (b:=b) (Y:=Y) (by simpa using h)
 have e:remM els k=ctM els a b:=by
  unfold remM ctM;rw[show((k:I):J).toNat=k from rfl,h1.2,h2.1];rfl
 exact⟨e,by rw[e];exact RingL.cut (M:=[k]) h⟩
end
section
open Go Go.Eng
def Vqz:∀(n:I)(L:F I),L.Nodup->(∀x∈L,x<n)->L.length<=n
 |0,L,_,h=>by
  cases L with
  |nil=>exact Zn _
  |cons a l=>exact Yq (h a ku) kv
 | n+1,L,hn,h=>by
  have h1:=Vqz n (L.erase n) (hn.erase n) (λx hx=>by
   have:=(hn.mem_erase_iff).1 hx;have:=h x this.2
   omega)
  by_cases hm:n∈L
  ·rw[List.length_erase_of_mem hm]at h1;omega
  ·rw[List.erase_of_not_mem hm]at h1;omega
def bt_path{ps:F Zq}{els:F Ym}:∀(M:F I)(a c n:I),Vc1 els (a::(M++[c]))->c ∉ M->(∀x∈M,x<els.length/\RunOk ps (el els x))->M.length<=n->BtOk ps els c n (el els a).fnext
 |[],a,c,n,hl,_,_,_=>by
  rw[hl.1.1];cases n with
  |zero=>rfl
  |succ n=>exact λh=>Yq rfl h
 |x::M,a,c,n,hl,hc,hx,hn=>by
  rw[hl.1.1];obtain⟨n,rfl⟩:∃ k,n=k+1:=⟨n-1,by simp at hn;omega⟩
  refine λ_=>⟨⟨kv,by have:=(hx x ku).1;omega⟩,(hx x ku).2,?_⟩
  exact bt_path M x c n hl.2 (λq=>hc (by simp[q])) (λy hy=>hx y (by simp[hy])) (by simp at hn;omega)
def bt_map{ps:F Zq}{els:F Ym}:∀(M:F I)(a c n:I),Vc1 els (a::(M++[c]))->c ∉ M->M.length<=n->btM ps els c n (el els a).fnext=M.map (λx=>runT ps (el els x))
 | [],a,c,n,hl,_,_=>by
  rw[hl.1.1];cases n with
  |zero=>rfl
  |succ n=>
   show Zp (((c:I):J) !=((c:I):J)) _ _=_;rw[I0];rfl
 | x::M,a,c,n,hl,hc,hn=>by
  rw[hl.1.1];obtain⟨n,rfl⟩:∃ k,n=k+1:=⟨n-1,by simp at hn;omega⟩
  have hx:(((x:I):J) !=((c:I):J))=true:=by
   rw[I1];intro e;exact hc (by rw[show c=x by omega];simp)
  show Zp (((x:I):J) !=((c:I):J)) _ _=_;rw[hx,Z1,Qw];congr 1;exact bt_map M x c n hl.2 (λq=>hc (by simp[q])) (by simp at hn;omega)
structure RunI (ps:F Zq) (e:Ym):Prop where
 pc:0<=e.fpiece/\e.fpiece<ps.length
 is:isrP (el ps e.fpiece.toNat)=Zi
 lf:1<=e.fleft/\e.fleft<=262144
def Vpa{s t:Zc}(h:eqs s t=Zi):s.size=t.size:=by
 unfold eqs at h;have:=Jb Ih (eq_of_beq h);simpa using this
def isr_n{p:Zq}(h:isrP p=Zi):1<=p.fN/\p.fN<=262144/\p.fChar.size=1:=by
 unfold isrP at h;cases h0:((p.fKind:J) !=1)with
 |true=>rw[h0]at h;cases h
 | false=>
  rw[h0,Z2]at h;cases h1:Zp (eqs p.fChar (⟨#[42]⟩)) (eqs p.fChar (⟨#[42]⟩)) (eqs p.fChar (⟨#[95]⟩))with
  | true=>
   rw[h1,Z1]at h;have hs:p.fChar.size=1:=by
    cases h2:eqs p.fChar (⟨#[42]⟩)with
    |true=>exact Vpa h2
    |false=>rw[h2,Z2]at h1;exact Vpa h1
   cases h3:Zf ((p.fN:J)>=1)with
   |true=>
    rw[h3,Z1]at h;exact⟨Zr h3,Zr h,hs⟩
   |false=>rw[h3]at h;cases h
  | false=>
   rw[h1,Z2]at h;cases h2:eqs p.fChar (⟨#[126]⟩)with
   |true=>
    rw[h2,Z1]at h;have:=eq_of_beq h;exact⟨kv,kv,Vpa h2⟩
   |false=>rw[h2]at h;cases h
def RunI.ok{ps:F Zq}{e:Ym}(h:e.frun=Zi->RunI ps e):RunOk ps e:=λhr=>by
 have h1:=h hr;have h2:=isr_n h1.is;exact⟨h1.pc,by unfold runC;omega,by have:=h1.lf;omega,by have:=h1.lf;omega⟩
section
variable {ps:F Zq} {els:F Ym} {A M D:F I} {o c:I}
def LL(A M D:F I)(o c:I):F Nat:=(0::A)++o::(M++c::(D++[0]))
def prN_bd(els:F Ym)(o c:J):(prN els o c=1\/prN els o c=2)/\(1<=lf els o->prN els o c<=lf els o)/\(1<=lf els c->prN els o c<=lf els c):=by
 unfold prN;cases h1:Zf (lf els o>=2)with
 |false=>exact⟨.inl rfl,id,id⟩
 | true=>
  have h1:=Zr h1;cases h2:Zf (lf els c>=2)with
  |false=>exact⟨.inl rfl,id,id⟩
  |true=>
   have h2:=Zr h2;exact⟨.inr rfl,λ_=>h1,λ_=>h2⟩
def ll_path(h:RingL els (LL A M D o c)):Vc1 els (o::(M++[c]))/\c ∉ M/\M.length<=els.length:=by
 obtain⟨_,h1⟩:=Ve2 (0::A) o (M++c::(D++[0])) h.lk;have h2:=(Ve2 (o::M) c (D++[0]) (by simpa using h1)).1;have h3:=h.ht;unfold LL at h3;rw[Vev,Yn,Yn]at h3;exact⟨by simpa using h2,λhx=>h3.2.1.2.2 c hx c ku rfl,Vqz _ M h3.2.1.1 (λx hx=>h.lt x (by simp[LL,hx]))⟩
def Vk5(h:RingL els (LL A M D o c)):RingL (pr2 els o c) ((0::A)++o::c::(D++[0])):=RingL.cut (M:=M) h
def pr3_ring(h:RingL els (LL A M D o c))(m:I):RingL (pr3 ps els o c m) ((0::A)++o::els.length::c::(D++[0])):=by
 have:=(Vk5 h).ins (mkE (prI (prK ps els c (prN els o c)) (btM ps els c m (nx els o))));rw[Ve8]at this;exact this
def oc_ne(h:RingL els (LL A M D o c)):o≠c:=by
 have h1:=h.ht;unfold LL at h1;rw[Vev,show M++c::(D++[0])=M++([c]++(D++[0])) by simp]at h1;intro e;subst e;rw[Yn]at h1;exact h1.2.2 o ku o ku rfl
def Vqw(h:RingL els (LL A M D o c)):o<els.length/\c<els.length:=⟨h.lt o (by simp[LL]),h.lt c (by simp[LL])⟩
def pr3_sm(h:RingL els (LL A M D o c))(m:I){j:I}(hj:j≠els.length):Sm (el (pr3 ps els o c m) j) (el els j):=by
 have h2:=Vk5 h;have hlt:=Vqw h;refine(insM_sm (els:=pr2 els o c) (a:=o) (b:=c) (by rw[Ve8];exact hlt.1) (by rw[Ve8];exact hlt.2) h2.at.2 (by rw[Ve8];exact hj)).trans ?_;exact ctM_sm hlt.1 hlt.2 j
def pr3_new(h:RingL els (LL A M D o c))(m:I):Sm (el (pr3 ps els o c m) els.length) (mkE (prI (prK ps els c (prN els o c)) (btM ps els c m (nx els o)))):=by
 have h2:=Vk5 h;have hlt:=Vqw h;have:=insM_new (els:=pr2 els o c) (a:=o) (b:=c) (e:=mkE (prI (prK ps els c (prN els o c)) (btM ps els c m (nx els o)))) (by rw[Ve8];exact hlt.1) (by rw[Ve8];exact hlt.2) h2.at.2;rw[Ve8]at this;exact this
def pr5_el(h:RingL els (LL A M D o c))(m:I)(j:I):el (pr5 ps els o c m) j={el (pr3 ps els o c m) j with fleft:=if j=o\/j=c then lf els j-prN els o c else(el (pr3 ps els o c m) j).fleft}:=by
 have hlt:=Vqw h;have hne:=oc_ne h;have ho3:o<(pr3 ps els o c m).length:=by rw[Vh8];omega
 have hc3:c<(pr3 ps els o c m).length:=by rw[Vh8];omega
 have e4:=λj=>Vom (els:=pr3 ps els o c m) ho3 (lf (pr3 ps els o c m) o-prN els o c) j
 have hc4:c<(pr4 (pr3 ps els o c m) o (prN els o c)).length:=by rw[Vj0];exact hc3
 have e5:=Vom (els:=pr4 (pr3 ps els o c m) o (prN els o c)) hc4 (lf (pr4 (pr3 ps els o c m) o (prN els o c)) c-prN els o c) j;have l3:∀ j:I,j≠els.length->lf (pr3 ps els o c m) j=lf els j:=λj hj=>(pr3_sm h m hj).2.2.2
 have l4:lf (pr4 (pr3 ps els o c m) o (prN els o c)) c=lf els c:=by
  show(el (setL (pr3 ps els o c m) o _) c).fleft=_;rw[e4,Z3 (λe=>hne e.symm)];exact l3 c kv
 show el (setL (pr4 (pr3 ps els o c m) o (prN els o c)) c _) j=_;rw[e5]
 by_cases h1:j=c
 ·subst h1;rw[Yu rfl,Yu (.inr rfl),l4];have e6:el (pr4 (pr3 ps els o j m) o (prN els o j)) j=el (pr3 ps els o j m) j:=(e4 j).trans (Z3 (λe=>hne e.symm));rw[e6]
 ·rw[Z3 h1]
  show el (setL (pr3 ps els o c m) o _) j=_;rw[e4]
  by_cases h2:j=o
  ·subst h2;rw[Yu rfl,Yu (.inl rfl),l3 j kv]
  ·rw[Z3 h2,Z3 (by rintro(q|q) <;>contradiction)]
end
end
section
open Go Go.Eng
def last_of(A:F I):∃ X q,(0::A)=X++[q]:=⟨(0::A).dropLast,(0::A).getLast ku,(List.dropLast_concat_getLast ku).symm⟩
def head_of(D:F I):∃ z Y,D++[0]=z::Y:=by cases D with
 |nil=>exact⟨0,[],rfl⟩
 |cons z Y=>exact⟨z,Y++[0],rfl⟩
def Vql{els:F Ym}{A Y:F I}{k b:I}(h:RingL els ((0::A)++k::b::Y)):RingL (remM els k) ((0::A)++b::Y)/\(∀j,Sm (el (remM els k) j) (el els j))/\Ix els (bf els k)/\Ix els (nx els k):=by
 obtain⟨X,q,hX⟩:=last_of A;rw[hX,Xf,Ic]at h;rw[hX,Xf,Ic];obtain⟨h1,h2⟩:=h.rem;have hq:q<els.length:=h.lt q ku;have hb:b<els.length:=h.lt b ku;refine⟨h2,λj=>by rw[h1];exact ctM_sm hq hb j,?_,?_⟩
 ·show Ix els (el els k).fbefore;rw[h.at.2];exact⟨kv,kv⟩
 ·have:=RingL.at (X:=X++[q]) (a:=k) (b:=b) (Y:=Y) (by simpa using h)
  show Ix els (el els k).fnext;rw[this.1];exact⟨kv,kv⟩
section
variable {ps:F Zq} {els:F Ym} {A M D:F I} {o c:I}
def A1(els5:F Ym)(A:F I)(o:I):F Nat:=Zp (lf els5 o==0) A (A++[o])
def D1(els6:F Ym)(D:F I)(c:I):F Nat:=Zp (lf els6 c==0) D (c::D)
def pr5_ring(h:RingL els (LL A M D o c))(m:I):RingL (pr5 ps els o c m) ((0::A)++o::els.length::c::(D++[0])):=by
 have hlt:=Vqw h;have h3:=pr3_ring (ps:=ps) h m;have h4:RingL (pr4 (pr3 ps els o c m) o (prN els o c)) ((0::A)++o::els.length::c::(D++[0])):=h3.setL (by rw[Vh8];omega) _;exact h4.setL (by rw[Vj0,Vh8];omega) _
def Vov(h:RingL els (LL A M D o c))(m:I):RingL (pr6 ps els o c m) ((0::A1 (pr5 ps els o c m) A o)++els.length::c::(D++[0]))/\∀ j,Sm (el (pr6 ps els o c m) j) (el (pr5 ps els o c m) j):=by
 have h5:=pr5_ring (ps:=ps) h m;unfold pr6 prR A1;cases(lf (pr5 ps els o c m) o==0)with
 |true=>exact⟨(Vql h5).1,(Vql h5).2.1⟩
 |false=>
  refine⟨?_,λj=>Sm.refl _⟩;simp only[Z2];rw[show(0::(A++[o]))++els.length::c::(D++[0])=(0::A)++o::els.length::c::(D++[0]) by simp];exact h5
def Vou(h:RingL els (LL A M D o c))(m:I):RingL (pr7 ps els o c m) (0::((A1 (pr5 ps els o c m) A o++els.length::D1 (pr6 ps els o c m) D c)++[0]))/\∀ j,Sm (el (pr7 ps els o c m) j) (el (pr5 ps els o c m) j):=by
 obtain⟨h6,s6⟩:=Vov (ps:=ps) h m;obtain⟨z,Y,hz⟩:=head_of D;unfold pr7 D1;generalize A1 (pr5 ps els o c m) A o=A' at h6 ⊢;unfold prR;cases(lf (pr6 ps els o c m) c==0)with
 |true=>
  rw[hz,show(0::A')++els.length::c::z::Y=(0::(A'++[els.length]))++c::z::Y by simp]at h6;have:=Vql h6;refine⟨?_,λj=>(this.2.1 j).trans (s6 j)⟩;simp only[Z1];rw[show 0::((A'++els.length::D)++[0])=(0::(A'++[els.length]))++(D++[0]) by simp,hz];exact this.1
 |false=>
  refine⟨?_,s6⟩;simp only[Z2];rw[show 0::((A'++els.length::c::D)++[0])=(0::A')++els.length::c::(D++[0]) by simp];exact h6
def pr_ok(h:RingL els (LL A M D o c))(hr:∀ x∈A++o::(M++c::D),(el els x).frun=Zi->RunI ps (el els x))(ho:(el els o).frun=Zi)(hc:(el els c).frun=Zi)(hlen:els.length<=1073741824):PrOk ps els o c els.length:=by
 have hlt:=Vqw h;have hne:=oc_ne h;have ro:=(hr o ku ho)
 have rc:=(hr c ku hc)
 have hN:=prN_bd els o c;have e3o:lf (pr3 ps els o c els.length) o=lf els o:=(pr3_sm h _ kv).2.2.2;have hl:(el els o).fleft=lf els o:=rfl;have hl2:(el els c).fleft=lf els c:=rfl;have lo:=ro.lf;have lc:=rc.lf;rw[hl]at lo;rw[hl2]at lc;refine⟨⟨kv,kv⟩,⟨kv,kv⟩,rc.pc,?_,hlen,?_,?_,?_,?_,?_⟩
 ·obtain⟨h1,h2,h3⟩:=ll_path h;exact bt_path M o c els.length h1 h2 (λx hx=>⟨h.lt x (by simp[LL,hx]),RunI.ok (hr x (by simp[hx]))⟩) h3
 ·show Ix (pr2 els o c) (el (pr2 els o c) c).fbefore;rw[(Vk5 h).at.2];exact⟨kv,by rw[Ve8];omega⟩
 ·rw[e3o];omega
 ·have:lf (pr4 (pr3 ps els o c els.length) o (prN els o c)) c=lf els c:=by
   have e4:=Vom (els:=pr3 ps els o c els.length) (a:=o) (by rw[Vh8];omega) (lf (pr3 ps els o c els.length) o-prN els o c) c;rw[Z3 (λe=>hne e.symm)]at e4;have e5:el (pr4 (pr3 ps els o c els.length) o (prN els o c)) c=el (pr3 ps els o c els.length) c:=e4
   show(el (pr4 (pr3 ps els o c els.length) o (prN els o c)) c).fleft=_;rw[e5];exact(pr3_sm h _ kv).2.2.2
  rw[this];omega
 ·exact λ_=>(Vql (pr5_ring h _)).2.2
 ·intro _;obtain⟨z,Y,hz⟩:=head_of D;have h6:=(Vov (ps:=ps) h els.length).1;rw[hz,show(0::A1 (pr5 ps els o c els.length) A o)++els.length::c::z::Y=(0::(A1 (pr5 ps els o c els.length) A o++[els.length]))++c::z::Y by simp]at h6;exact(Vql h6).2.2
end
end
end Go.Proofs.YthbpjmogdonlkaaGreatDoor
