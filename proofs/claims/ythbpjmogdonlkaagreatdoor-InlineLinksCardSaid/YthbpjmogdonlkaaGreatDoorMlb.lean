/- Texts joined by a program (merge.py). -/
import Derived.Test.YthbpjmogdonlkaaGreatDoorMla
import Derived.Test.YthbpjmogdonlkaaGreatDoorProg
import Derived.KernelRfl
set_option linter.unusedSimpArgs false
set_option linter.unusedVariables false
open Option renaming map_eq_some_iff -> Za
open Option.some renaming injEq -> Zb
open Option renaming getD_some -> Zc
open Array renaming mapM_eq_mapM_toList -> Zd
open List renaming mem_map_of_mem -> Ze
namespace Go.Eng
def Vqk(P:Program)(S:St):ResultVar->Option SV
 | .tmp t=>S.fr[t]?
 | .cell a t=>(Vin P t (S.fr.getD a .junk) S).map (·.v)
def aResL(P:Program)(S:St):List ResultVar->Option (List AV)
 |[]=>some []
 |r::l=>match Vqk P S r,aResL P S l with
  |some s,some xs=>(s.toAV).map (λx=>x::xs)
  |_,_=>none
def SV.toXV:SV->Option XV
 | .av x=>some (.c (.av x))
 | .nil=>some (.c .nil)
 | .own k g sz l=>some (.c (.own k g sz l))
 | .ag l=>some (.a l)
 |_=>none
def aResX(P:Program)(S:St):List ResultVar->Option (List XV)
 |[]=>some []
 |r::l=>match Vqk P S r,aResX P S l with
  |some s,some xs=>(s.toXV).map (λx=>x::xs)
  |_,_=>none
def aRes(P:Program)(fn:Func)(S:St)(keep:Bool):Option SV:=
 match keep,fn.results.toList with
 |true,[r]=>Vqk P S r
 |true,rs=>(aResX P S rs).map (λl=>.tp l)
 |false,[r]=>(Vqk P S r).map SV.norm
 |false,rs=>(aResL P S rs).map (λl=>.av (.tup l))
section
variable {P:Program}
def Vk7(tmps:Array Value):ResultVar->Sem Value
 | .tmp t=>pure (tmps.getD t undef)
 | .cell a t=>do loadVar t (<-asAddr (tmps.getD a undef))
theorem Vez{S:St}{r:ResultVar}{s:SV}(h:Vqk P S r=some s){G:Gh}{w:World}{a:Act}(hr:Rel G w S a):∃ v,(Vk7 a.tmps r).run P w=.ok v w/\RepS G w s v:=by
 cases r with
 |tmp t=>
  simp only[Vqk]at h;exact⟨_,by simp[Vk7],hr.fr t s h⟩
 | cell ad t=>
  simp only[Vqk,Za]at h;obtain⟨r,h1,rfl⟩:=h
  have ho : Vb6 P { dst := none, op := .load t (.tmp ad), type := 0, pos := "", after := #[], guard := none } S = some r := by simpa [Vb6, St.ev] using h1
  have hok:r.ok/\r.st=S:=by
   unfold Vin at h1
   split at h1
   ·split at h1
    ·split at h1
     ·simp only[Za]at h1;obtain⟨q,_,rfl⟩:=h1;exact⟨trivial,rfl⟩
     ·simp at h1
    ·simp only[Za]at h1;obtain⟨q,_,rfl⟩:=h1;exact⟨trivial,rfl⟩
    ·simp at h1
   ·split at h1
    ·split at h1
     ·split at h1
      ·split at h1
       ·split at h1
        ·split at h1
         ·simp only[Zb]at h1;subst h1;exact⟨trivial,rfl⟩
         ·simp at h1
        ·simp at h1
       ·split at h1
        ·split at h1
         ·simp only[Zb]at h1;subst h1;exact⟨trivial,rfl⟩
         ·simp at h1
        ·simp at h1
      ·simp at h1
     ·split at h1
      ·simp only[Zb]at h1;subst h1;exact⟨trivial,rfl⟩
      ·simp at h1
     ·simp at h1
    ·simp at h1
   ·simp at h1
  have hev:=hr.ev (.tmp ad)
  have key:∀(hp:∃ b o,a.tmps.getD ad undef=.pointer (some ⟨b,o,none⟩)),∃v,(Vk7 a.tmps (.cell ad t)).run P w=.ok v w/\RepS G w r.v v:=by
   rintro⟨b,o,hp⟩;obtain⟨nx,v,w',G',e1,e2,_⟩:=Vau ho hok.1 G w a hr
   have hst:∃ v,(loadVar t ⟨b,o,none⟩).run P w=.ok v w/\RepS G w r.v v:=by
    have hs:=Vau ho;clear e1 e2;unfold Vin at h1
    split at h1
    ·rename_i ha
     split at h1
     ·rename_i b' k' hx
      split at h1
      ·rename_i ty l hb;simp only[Za]at h1;obtain⟨q,hq,rfl⟩:=h1
       have:=hev;simp only[St.ev,hx,Act.eval]at this;obtain⟨blk,h2,h3⟩:=this;rw[hp]at h3;simp at h3;obtain⟨rfl,rfl⟩:=h3;obtain⟨blk',arr,g1,g2,g3,g4,g5⟩:=hr.bx _ (Vad hb);simp only at g1;rw[h2]at g1;simp at g1;subst g1;obtain⟨u,h4,h5⟩:=g4.get o q hq
       have hc:w.cell? ⟨b,o,none⟩=some u:=by simpa[World.cell?,g2]using h4
       exact⟨u,Vb0 ha hc,h5⟩
      ·simp at h1
     ·rename_i l k hx;simp only[Za]at h1;obtain⟨q,hq,rfl⟩:=h1
      have:=hev;simp only[St.ev,hx,Act.eval,RepS,Rep]at this;obtain⟨b',o',us,h3,h4,h5,h6⟩:=this;rw[hp]at h3;simp at h3;obtain⟨rfl,rfl⟩:=h3;obtain⟨u,h7,h8⟩:=h4.get k q hq;exact⟨u,Vb0 ha (h6 k u h7).1,h8⟩
     ·simp at h1
    ·rename_i ha
     split at h1
     ·rename_i sz _ _ hi
      split at h1
      ·rename_i b' k' hx
       split at h1
       ·rename_i ty l hb
        split at h1
        ·split at h1
         ·rename_i r' hr'
          split at h1
          ·rename_i hsz;simp only[Zb]at h1;subst h1
           have:=hev;simp only[St.ev,hx,Act.eval]at this;obtain⟨blk,h2,h3⟩:=this;rw[hp]at h3;simp at h3;obtain⟨rfl,rfl⟩:=h3;exact Vkk ha hi hb hr' hsz hr h2
          ·simp at h1
         ·simp at h1
        ·split at h1
         ·rename_i r' hr'
          split at h1
          ·rename_i hsz;simp only[Zb]at h1;subst h1
           have:=hev;simp only[St.ev,hx,Act.eval]at this;obtain⟨blk,h2,h3⟩:=this;rw[hp]at h3;simp at h3;obtain⟨rfl,rfl⟩:=h3;obtain⟨blk',arr,g1,g2,g3,g4,g5⟩:=hr.bx _ (Vad hb);simp only at g1;rw[h2]at g1;simp at g1;subst g1
           have h4:=((g4.drop o).take sz).allAV hr'
           have hl:=h4.length
           have hc:∀ j v,((arr.toList.drop o).take sz)[j]? =some v->w.cell? ⟨b,o+j,none⟩=some v:=by
            intro j v hj;rw[List.getElem?_take]at hj
            split at hj
            ·simp only[List.getElem?_drop]at hj;simpa[World.cell?,g2]using hj
            ·simp at hj
           refine⟨_,Vbg ha hi (hl.trans hsz) hc,?_⟩;simp only[RepS,Rep];exact⟨_,rfl,h4,λy hy=>g5 y (List.mem_of_mem_drop (List.mem_of_mem_take hy))⟩
          ·simp at h1
         ·simp at h1
       ·simp at h1
      ·rename_i l k hx
       split at h1
       ·rename_i hsz;simp only[Zb]at h1;subst h1
        have:=hev;simp only[St.ev,hx,Act.eval,RepS,Rep]at this;obtain⟨b',o',us,h3,h4,h5,h6⟩:=this;rw[hp]at h3;simp at h3;obtain⟨rfl,rfl⟩:=h3
        have h7:=(h4.drop k).take sz
        have hl:=h4.length
        have hc:∀ j v,((us.drop k).take sz)[j]? =some v->w.cell? ⟨b,(o'+k)+j,none⟩=some v:=by
         intro j v hj;rw[List.getElem?_take]at hj
         split at hj
         ·simp only[List.getElem?_drop]at hj;have:=(h6 _ v hj).1;rwa[Nat.add_assoc]
         ·simp at hj
        refine⟨_,Vbg ha hi (vs:=(us.drop k).take sz) (by simp;omega) hc,?_⟩;simp only[RepS,Rep];refine⟨_,rfl,h7,λy hy=>?_⟩
        have hy':=List.mem_of_mem_drop (List.mem_of_mem_take hy);obtain⟨j,hj⟩:=List.mem_iff_getElem?.1 hy';exact(h6 j y hj).2
       ·simp at h1
      ·simp at h1
     ·simp at h1
    ·simp at h1
   obtain⟨v,q1,q2⟩:=hst;exact⟨v,by simp[Vk7,hp,asAddr,q1],q2⟩
  have hp:∃ b o,a.tmps.getD ad undef=.pointer (some ⟨b,o,none⟩):=by
   unfold Vin at h1
   have hcase:(∃b k,S.fr.getD ad .junk=.ptr b k)\/(∃l k,S.fr.getD ad .junk=.av (.ro l k)):=by
    split at h1
    ·split at h1
     ·rename_i b k hx;exact .inl ⟨b,k,hx⟩
     ·rename_i l k hx;exact .inr ⟨l,k,hx⟩
     ·simp at h1
    ·split at h1
     ·split at h1
      ·rename_i b k hx;exact .inl ⟨b,k,hx⟩
      ·rename_i l k hx;exact .inr ⟨l,k,hx⟩
      ·simp at h1
     ·simp at h1
    ·simp at h1
   rcases hcase with⟨b,k,hx⟩|⟨l,k,hx⟩
   ·have:=hev;simp only[St.ev,hx,Act.eval]at this;obtain⟨blk,_,h3⟩:=this;exact⟨blk,k,h3⟩
   ·have:=hev;simp only[St.ev,hx,Act.eval,RepS,Rep]at this;obtain⟨b,o,us,h3,_⟩:=this;exact⟨b,o+k,h3⟩
  exact key hp
theorem Vl8{S:St}{G:Gh}{w:World}{a:Act}(hr:Rel G w S a):∀ {rs:List ResultVar} {l:List AV},aResL P S rs=some l->∃ vs,(rs.mapM (Vk7 a.tmps)).run P w=.ok vs w/\RepL G.U w l vs
 |[],l,h=>by simp[aResL]at h;subst h;exact⟨[],by simp,by simp[RepL]⟩
 |r::rs,l,h=>by
  simp only[aResL]at h
  split at h
  ·rename_i s xs h1 h2;simp only[Za]at h;obtain⟨x,h3,rfl⟩:=h;obtain⟨v,e1,e2⟩:=Vez h1 hr;obtain⟨vs,e3,e4⟩:=Vl8 hr h2;refine⟨v::vs,by simp[List.mapM_cons,e1,e3],?_⟩;simp only[RepL];exact⟨v,vs,rfl,e2.toAV h3,e4⟩
  ·simp at h
theorem RepS.toXV{G:Gh}{w:World}{s:SV}{u:Value}{x:XV}(h:RepS G w s u)(hx:s.toXV=some x):RepX G w x u:=by
 cases s with
 |av y=>simp only[SV.toXV,Zb]at hx;subst hx;exact h
 |nil=>simp only[SV.toXV,Zb]at hx;subst hx;exact h
 |own k g sz l=>simp only[SV.toXV,Zb]at hx;subst hx;exact h
 |ag l=>simp only[SV.toXV,Zb]at hx;subst hx;exact h
 |_=>simp[SV.toXV]at hx
theorem Vl7{S:St}{G:Gh}{w:World}{a:Act}(hr:Rel G w S a):∀ {rs:List ResultVar} {l:List XV},aResX P S rs=some l->∃ vs,(rs.mapM (Vk7 a.tmps)).run P w=.ok vs w/\RepXs G w l vs/\vs.length=rs.length
 |[],l,h=>by simp[aResX]at h;subst h;exact⟨[],by simp,rfl,rfl⟩
 |r::rs,l,h=>by
  simp only[aResX]at h
  split at h
  ·rename_i s xs h1 h2;simp only[Za]at h;obtain⟨x,h3,rfl⟩:=h;obtain⟨v,e1,e2⟩:=Vez h1 hr;obtain⟨vs,e3,e4,e5⟩:=Vl7 hr h2;exact⟨v::vs,by simp[List.mapM_cons,e1,e3],⟨v,vs,rfl,e2.toXV h3,e4⟩,by simp[e5]⟩
  ·simp at h
theorem Vg0(fn:Func)(tmps:Array Value):results fn tmps=(do let vs<-fn.results.mapM (Vk7 tmps);pure (if h:vs.size=1 then vs[0]else .tuple vs)):=by
 unfold results;congr 1
theorem Vmn{fn:Func}{S:St}{s:SV}{keep:Bool}(h:aRes P fn S keep=some s){G:Gh}{w:World}{a:Act}(hr:Rel G w S a):∃ v,(results fn a.tmps).run P w=.ok v w/\RepS G w s v:=by
 unfold aRes at h
 split at h
 ·rename_i r hrs;obtain⟨v,e1,e2⟩:=Vez h hr;refine⟨v,?_,e2⟩;rw[Vg0,arr1 hrs,Zd];simp[e1]
 ·rename_i rs hrs;simp only[Za]at h;obtain⟨l,h1,rfl⟩:=h;obtain⟨vs,e1,e2,e3⟩:=Vl7 hr h1;refine⟨.tuple vs.toArray,?_,_,rfl,by simpa using e2⟩;rw[Vg0,Zd];simp only[Sem.run_bind,Sem.run_map,e1,Result.andThen_ok,Sem.run_pure]
  have hne:¬ vs.toArray.size=1:=by
   intro h1';simp at h1'
   have h1l:fn.results.toList.length=1:=by omega
   obtain⟨r,hr1⟩:=List.length_eq_one_iff.1 h1l;exact hrs r hr1
  rw[dif_neg hne]
 ·rename_i r hrs;simp only[Za]at h;obtain⟨s',h1,rfl⟩:=h;obtain⟨v,e1,e2⟩:=Vez h1 hr;refine⟨v,?_,e2.norm⟩;rw[Vg0,arr1 hrs,Zd];simp[e1]
 ·rename_i rs hrs;simp only[Za]at h;obtain⟨l,h1,rfl⟩:=h;obtain⟨vs,e1,e2⟩:=Vl8 hr h1;refine⟨.tuple vs.toArray,?_,?_⟩
  ·rw[Vg0,Zd];simp only[Sem.run_bind,Sem.run_map,e1,Result.andThen_ok,Sem.run_pure]
   have hne:¬ vs.toArray.size=1:=by
    intro h1'
    have hl:=e2.length
    have hlen:fn.results.toList.length=l.length:=by
     clear e1 e2 hrs hl
     revert h1
     generalize fn.results.toList=rs;intro h1
     induction rs generalizing l with
     |nil=>simp[aResL]at h1;subst h1;rfl
     |cons r rs ih=>
      simp only[aResL]at h1
      split at h1
      ·rename_i s xs _ h2;simp only[Za]at h1;obtain⟨x,_,rfl⟩:=h1;simp[ih _ h2]
      ·simp at h1
    simp at h1'
    have h1l:fn.results.toList.length=1:=by omega
    obtain⟨r,hr1⟩:=List.length_eq_one_iff.1 h1l;exact hrs r hr1
   rw[dif_neg hne]
  ·simp only[RepS,Rep];exact⟨_,rfl,by simpa using e2⟩
def OkCV(gn:List (Key×Nat)):CV->Prop
 | .own k g _ _=>gn.lookup k=some g
 |_=>True
def OkXV(gn:List (Key×Nat)):XV->Prop
 | .c x=>OkCV gn x
 | .a l=>∀ x∈l,OkCV gn x
def OkSV(ids:List Nat)(gn:List (Key×Nat)):SV->Prop
 | .own k g _ _=>gn.lookup k=some g
 | .ag l=>∀ x∈l,OkCV gn x
 | .tp l=>∀ x∈l,OkXV gn x
 |s=>∀ κ∈s.keys,κ.1∈ids
theorem Ves{l:List (Key×Nat)}{k:Key}{g:Nat}(h:l.lookup k=some g):(k,g)∈l:=by
 induction l with
 |nil=>simp at h
 |cons p l ih=>
  obtain⟨k',y⟩:=p;simp only[List.lookup_cons]at h
  split at h
  ·rename_i hk;simp only[Zb]at h;have:=eq_of_beq hk;subst this h;simp
  ·simp[ih h]
theorem Vfw{G G':Gh}{w:World}{gn:List (Key×Nat)}{k:Key}{g sz:Nat}{l:List AV}{u:Value}(hU:G'.U=G.U)(hk:gn.lookup k=some g)(hg:∀ k g,gn.lookup k=some g->G'.ow k=G.ow k/\G.gen k=g/\G'.gen k=g)(hr:RepOwn G w k g sz l u):RepOwn G' w k g sz l u:=by
 obtain⟨q1,q2,q3⟩:=hg k g hk;obtain⟨h0,hgg,a,cap,es,h1,h2,h3,h4,hn,hsp,h5,h6⟩:=hr;refine⟨h0,by omega,a,cap,es,h1,by rw[hU];exact h2,h3,h4,hn,hsp,by rw[hU];exact h5,λ_=>?_⟩;rcases h6 q2 with h6|⟨b,off,arr,e,h7,h8,h9,h10,h11,h12⟩
 ·exact .inl ⟨h6.1,by unfold CapZ at h6 ⊢;rw[hU];exact h6.2⟩
 ·exact .inr ⟨b,off,arr,e,h7,by rw[q1];exact h8,h9,h10,by rw[hU];exact h11,h12⟩
theorem Vhp{G G':Gh}{w:World}{gn:List (Key×Nat)}{x:CV}{u:Value}(hU:G'.U=G.U)(hg:∀ k g,gn.lookup k=some g->G'.ow k=G.ow k/\G.gen k=g/\G'.gen k=g)(hk:OkCV gn x)(hr:RepC G w x u):RepC G' w x u:=by
 cases x with
 |av x=>simp only[RepC]at hr ⊢;rw[hU];exact hr
 |nil=>exact hr
 |own k g sz l=>exact Vfw hU hk hg hr
theorem Ve2{G G':Gh}{w:World}{gn:List (Key×Nat)}(hU:G'.U=G.U)(hg:∀ k g,gn.lookup k=some g->G'.ow k=G.ow k/\G.gen k=g/\G'.gen k=g):∀ {l:List CV} {us:List Value},(∀x∈l,OkCV gn x)->RepCs G w l us->RepCs G' w l us
 |[],_,_,h=>h
 |x::l,us,hk,h=>by
  obtain⟨u,us',e,h2,h3⟩:=h;exact⟨u,us',e,Vhp hU hg (hk x ku) h2,Ve2 hU hg (λy hy=>hk y (by simp[hy])) h3⟩
theorem Vf3{G G':Gh}{w:World}{ids:List Nat}{gn:List (Key×Nat)}{s:SV}{u:Value}(hU:G'.U=G.U)(hC:G'.cp=G.cp)(hk:OkSV ids gn s)(ho:∀ i:Nat,i∈ids->G'.ow (i,0)=G.ow (i,0))(hg:∀ k g,gn.lookup k=some g->G'.ow k=G.ow k/\G.gen k=g/\G'.gen k=g)(hr:RepS G w s u):RepS G' w s u:=by
 have key:∀(p:PV)(u:Value),(∀κ∈p.keys,κ.1∈ids)->RepP G w p u->RepP G' w p u:=by
  intro p u hp h;cases p with
  |av x=>simp only[RepP]at h ⊢;rw[hU];exact h
  |ptr b o=>obtain⟨blk,h1,h2⟩:=h;exact⟨blk,by rw[ho b (hp (b,0) (by simp[PV.keys]))];exact h1,h2⟩
  |mp b=>obtain⟨blk,h1,h2⟩:=h;exact⟨blk,by rw[ho b (hp (b,0) (by simp[PV.keys]))];exact h1,h2⟩
 have keyL:∀(l:List PV)(us:List Value),(∀κ∈l.flatMap PV.keys,κ.1∈ids)->RepPs G w l us->RepPs G' w l us:=by
  intro l
  induction l with
  |nil=>intro us _ h;exact h
  |cons p l ih=>
   intro us hp h;obtain⟨u,us',e1,e2,e3⟩:=h;exact⟨u,us',e1,key p u (λκ hκ=>hp κ (by simp[hκ])) e2,ih us' (λκ hκ=>hp κ (by simp only[List.flatMap_cons,List.mem_append];exact .inr hκ)) e3⟩
 cases s with
 |junk=>trivial
 |nil=>exact hr
 |av x=>simp only[RepS]at hr ⊢;rw[hU];exact hr
 |ptr b o=>obtain⟨blk,h1,h2⟩:=hr;exact⟨blk,by rw[ho b (hk (b,0) (by simp[SV.keys]))];exact h1,h2⟩
 |mp b=>obtain⟨blk,h1,h2⟩:=hr;exact⟨blk,by rw[ho b (hk (b,0) (by simp[SV.keys]))];exact h1,h2⟩
 |own k g sz l=>exact Vfw hU hk hg hr
 |ag l=>obtain⟨us,h1,h2,h3⟩:=hr;exact⟨us,h1,Ve2 hU hg hk h2,h3⟩
 | tp l=>
  obtain⟨us,h1,h2⟩:=hr;refine⟨us,h1,?_⟩;clear h1;generalize us.toList=vs at h2
  induction l generalizing vs with
  |nil=>exact h2
  |cons x l ih=>
   obtain⟨u,vs',e1,e2,e3⟩:=h2;refine⟨u,vs',e1,?_,ih (λy hy=>hk y (by simp[hy])) vs' e3⟩
   have hx:=hk x ku;cases x with
   |c y=>exact Vhp hU hg hx e2
   |a m=>obtain⟨ws,f1,f2,f3⟩:=e2;exact⟨ws,f1,Ve2 hU hg hx f2,f3⟩
 |clo l=>simp only[RepS]at hr ⊢;rw[hU];exact hr
 |vs b n=>
  rcases hr with⟨h1,h2,h3⟩|⟨blk,h0,h1,h2,h3⟩
  ·exact .inl ⟨h1,h2,by rw[ho b (hk (b,0) (by simp[SV.keys]))];exact h3⟩
  ·exact .inr ⟨blk,h0,by rw[ho b (hk (b,0) (by simp[SV.keys]))];exact h1,by rw[hC];exact h2,by rw[hC];exact h3⟩
 |vw b sz o n=>
  obtain⟨a,cap,h1,h2,h3⟩:=hr;exact⟨a,cap,h1,h2,h3.imp id (λ⟨blk,h4,h5⟩=>⟨blk,by rw[ho b (hk (b,0) (by simp[SV.keys]))];exact h4,h5⟩)⟩
 |vp b sz i o=>obtain⟨blk,h1,h2⟩:=hr;exact⟨blk,by rw[ho b (hk (b,0) (by simp[SV.keys]))];exact h1,h2⟩
 |son b=>
  rcases hr with h1|⟨blk,h1,h2⟩
  ·exact .inl h1
  ·exact .inr ⟨blk,by rw[ho b (hk (b,0) (by simp[SV.keys]))];exact h1,h2⟩
 |fn f fs cs=>
  obtain⟨vs,us,h1,h2,h3⟩:=hr;refine⟨vs,us,h1,keyL fs _ (λκ hκ=>hk κ ?_) h2,keyL cs _ (λκ hκ=>hk κ ?_) h3⟩
  ·simp only[SV.keys,List.mem_append];exact .inl hκ
  ·simp only[SV.keys,List.mem_append];exact .inr hκ
theorem Vbt{G G':Gh}{w:World}{ids:List Nat}{gn:List (Key×Nat)}(hU:G'.U=G.U)(hC:G'.cp=G.cp)(ho:∀ i:Nat,i∈ids->G'.ow (i,0)=G.ow (i,0))(hg:∀ k g,gn.lookup k=some g->G'.ow k=G.ow k/\G.gen k=g/\G'.gen k=g):∀ {l:List SV} {us:List Value},(∀s∈l,OkSV ids gn s)->RepSs G w l us->RepSs G' w l us
 |[],_,_,h=>h
 |s::l,us,hk,h=>by
  obtain⟨u,us',e,h2,h3⟩:=h;exact⟨u,us',e,Vf3 hU hC (hk s ku) ho hg h2,Vbt hU hC ho hg (λx hx=>hk x (by simp[hx])) h3⟩
theorem Vf4{G G':Gh}{w:World}{ids:List Nat}{gn:List (Key×Nat)}{id:Nat}{x:ABox}(hU:G'.U=G.U)(hC:G'.cp=G.cp)(ho:∀ i:Nat,i∈ids->G'.ow (i,0)=G.ow (i,0))(hg:∀ k g,gn.lookup k=some g->G'.ow k=G.ow k/\G.gen k=g/\G'.gen k=g)(hid:id∈ids)(hk:∀ s∈x.svs,OkSV ids gn s)(h:RepB G w id x):RepB G' w id x:=by
 cases x with
 |cells e l=>
  obtain⟨blk,arr,h1,h2,h3,h4,h5⟩:=h;exact⟨blk,arr,by rw[ho id hid];exact h1,h2,by rw[hU];exact h3,Vbt hU hC ho hg hk h4,h5⟩
 |map ks vs=>
  obtain⟨blk,ents,clock,h1,h2,h3,h4,h5,h6⟩:=h;exact⟨blk,ents,clock,by rw[ho id hid];exact h1,h2,by rw[hU];exact h3,h4,by rw[hU];exact h5,h6⟩
 |ge n=>exact h
 |mi ks l=>
  obtain⟨blk,ents,clock,h1,h2,h3,h4,h5,h6⟩:=h;exact⟨blk,ents,clock,by rw[ho id hid];exact h1,h2,by rw[hU];exact h3,h4,Vbt hU hC ho hg hk h5,h6⟩
 |gl b vs=>
  obtain⟨e,m,h1,h2⟩:=h;exact⟨e,m,by rw[ho id hid];exact h1,h2⟩
 |it s pos=>
  obtain⟨blk,h0,h1,h2,h3⟩:=h;exact⟨blk,h0,by rw[ho id hid];exact h1,h2,by rw[hU];exact h3⟩
 |vec e sz l=>
  rcases h with⟨h1,h2⟩|⟨blk,arr,es,h0,h1,h2,h3,h4,h5,h6,h7⟩
  ·exact .inl ⟨h1,by rw[ho id hid];exact h2⟩
  ·exact .inr ⟨blk,arr,es,h0,by rw[ho id hid];exact h1,h2,by rw[hU];exact h3,by rw[hC];exact h4,by rw[hU];exact h5,h6,h7⟩
 |vck e sz l=>
  rcases h with⟨h1,h2⟩|⟨blk,arr,es,h0,h1,h2,h3,h4,h5,h6,h7⟩
  ·exact .inl ⟨h1,by rw[ho id hid];exact h2⟩
  ·exact .inr ⟨blk,arr,es,h0,by rw[ho id hid];exact h1,h2,by rw[hU];exact h3,by rw[hC];exact h4,by rw[hU];exact h5,h6,h7⟩
def Ends(P:Program)(fn:Func)(res:SV)(bx':List (Nat×ABox))(gn':List (Key×Nat)):Exit->St->Prop
 | .normal,S| .ret,S=>(∃keep,aRes P fn S keep=some res)/\(∀p∈bx',S.bx.lookup p.1=some p.2)/\∀ p∈gn',S.gen p.1=p.2
 |_,_=>False
def FsOk(bx:List (Nat×ABox))(gn:List (Key×Nat))(S:St)(r res:SV):Prop:=
 ∃(k:Key)(g sz:Nat)(l:List AV)(N id:Nat),r=.own k g sz l/\res=.av (.fs N (k.2-1) l)/\(id,ABox.ge N)∈bx/\(∀p∈bx,p.1<2000)/\gn=[]/\0<k.2/\S.gen k=g
def EndsG(P:Program)(fn:Func)(bx:List (Nat×ABox))(gn:List (Key×Nat))(res:SV)(bx':List (Nat×ABox))(gn':List (Key×Nat)):Exit->St->Prop
 | .normal,S| .ret,S=>(∃keep r,aRes P fn S keep=some r/\(r=res\/FsOk bx gn S r res))/\(∀p∈bx',S.bx.lookup p.1=some p.2)/\∀ p∈gn',S.gen p.1=p.2
 |_,_=>False
theorem Ver{l:List (Key×Nat)}{k:Key}(h:k∈l.map (·.1)):∃ g,l.lookup k=some g:=by
 cases hl:l.lookup k with
 |some g=>exact⟨g,rfl⟩
 |none=>
  rw[List.lookup_eq_none_iff]at hl;simp only[List.mem_map]at h;obtain⟨p,hp,hpk⟩:=h
  have:=hl p hp;simp at this;exact(this hpk.symm).elim
theorem Vbl {f : FuncId} {fn : Func} {c : Code} (hf : P.funcs[f]? = some fn) (hb : fn.body = some c) (hname : (fn.name == "runtime.NumGoroutine") = false) {args : List SV} {bx bx1 bx' : List (Nat × ABox)} {gn gn' : List (Key × Nat)} {res : SV} {n : Nat} (hn : fn.ntmps = n)
  (hle:args.length<=n) (hids:∀ p∈bx,1000<=p.1) (hgk:∀ p∈gn,1000<=p.1.1/\0<p.1.2) (hargs:∀ s∈args,OkSV (bx.map (·.1)) gn s) (hbx:∀ p∈bx,∀s∈p.2.svs,OkSV (bx.map (·.1)) gn s)
  (hres:OkSV (bx.map (·.1)) gn' res) (hbx':∀ p∈bx1,∀s∈p.2.svs,OkSV (bx.map (·.1)) gn' s) (hsame:bx'.map (·.1)=bx.map (·.1)) (hgn':gn'.map (·.1)=gn.map (·.1))
  (h:W P c (EndsG P fn bx gn res bx1 gn') ⟨args++List.replicate (n-args.length) .junk,bx,gn⟩) (hv:∀ p∈bx',p.1<2000\/p.1∈Vb8 bx') (hk:∀ p∈bx',∃x,(p.1,x)∈bx1/\∀ G w,RepB G w p.1 x->RepB G w p.1 p.2):Va2 P f args bx gn res bx' gn':=by
 refine⟨⟨fn,hf,by rw[hb];rfl,hname⟩,?_⟩;intro G w vs hw hr hbr hgr
 have hlv:=hr.length
 let ids:=bx.map (·.1)
 let mine:Key->Prop:=λκ=>(κ.1∈ids/\κ.2=0)\/κ∈gn.map (·.1)
 have hdec:∀ κ,mine κ\/¬ mine κ:=λκ=>Classical.em _
 let G0:Gh:={U:=G.U,cp:=G.cp,ow:=λκ=>@ite _ (mine κ) (Classical.propDecidable _) (G.ow κ) none,gen:=λκ=>(gn.lookup κ).getD 0,df:=[]}
 have hG0:∀ κ:Key,mine κ->G0.ow κ=G.ow κ:=λκ hκ=>by simp only[G0];rw[if_pos hκ]
 have hG0s:∀ κ b,G0.ow κ=some b->mine κ/\G.ow κ=some b:=by
  intro κ b hb;simp only[G0]at hb
  split at hb
  ·rename_i hk;exact⟨hk,hb⟩
  ·simp at hb
 have hgl:∀ k g,gn.lookup k=some g->G.gen k=g:=λk g hl=>hgr (k,g) (Ves hl)
 have hid0:∀ i:Nat,i∈ids->G0.ow (i,0)=G.ow (i,0):=λi hi=>hG0 (i,0) (.inl ⟨hi,rfl⟩)
 have hgn0:∀ k g,gn.lookup k=some g->G0.ow k=G.ow k/\G.gen k=g/\G0.gen k=g:=λk g hl=>
  ⟨hG0 k (.inr (by have:=Ves hl;exact Ze this)),hgl k g hl,by simp only[G0,hl,Zc]⟩
 have hw0:Wf G0 w:=⟨λκ κ' b h1 h2=>hw.inj κ κ' b (hG0s κ b h1).2 (hG0s κ' b h2).2,λκ b h1=>hw.lt κ b (hG0s κ b h1).2,hw.zero⟩
 have hrel:Rel G0 w ⟨args++List.replicate (n-args.length) .junk,bx,gn⟩ {tmps:=vs.toArray++Array.replicate (fn.ntmps-vs.toArray.size) undef,defers:=[]}:=by
  refine⟨hw0,?_,λt s ht=>?_,λp hp=>?_,λk=>rfl,rfl⟩
  ·simp[hlv,hn]
  ·simp only at ht;rcases Nat.lt_or_ge t args.length with hlt|hge
   ·rw[List.getElem?_append_left hlt]at ht
    have hr0:=Vbt (G:=G) (G':=G0) rfl rfl hid0 hgn0 hargs hr;obtain⟨u,h1,h2⟩:=hr0.get t s ht
    have:(vs.toArray++Array.replicate (fn.ntmps-vs.toArray.size) undef).getD t undef=u:=by
     have hlt':t<vs.length:=by omega
     simp only[Array.getD_eq_getD_getElem?];rw[Array.getElem?_append_left (by simpa using hlt')];simp[h1]
    rw[this];exact h2
   ·rw[List.getElem?_append_right hge,List.getElem?_replicate]at ht
    split at ht
    ·simp at ht;subst ht;trivial
    ·simp at ht
  ·exact Vf4 (G:=G) (G':=G0) rfl rfl hid0 hgn0 (Ze hp) (hbx p hp) (hbr p hp)
 refine calls_of_wp hf hb (Code.wp_mono (λe a w' hl=>?_) (h G0 w _ hrel));obtain⟨S',G1,h1,h2,h3,h4⟩:=hl
 have done:(∃keep r,aRes P fn S' keep=some r/\(r=res\/FsOk bx gn S' r res))/\(∀p∈bx1,S'.bx.lookup p.1=some p.2)/\(∀p∈gn',S'.gen p.1=p.2)->a.defers=[]/\∃ v,(results fn a.tmps).run P w'=.ok v w'/\
   ∃v_1 G',Ending.returned v=.returned v_1/\Step G w G' w'/\Wf G' w'/\RepS G' w' res v_1/\(∀p∈bx',RepB G' w' p.1 p.2)/\(∀i:Nat,i ∉ bx'.map (·.1)->Keep G w G' w' (i,0))/\(∀i,i ∉ Vb8 bx'->G'.ow (i,0)=G.ow (i,0))/\∀ κ:Key,G'.gen κ=(gn'.lookup κ).getD (G.gen κ):=by
  rintro⟨⟨keep,r9,g1,hfs⟩,g2,g3⟩;obtain⟨v,e1,e2r⟩:=Vmn g1 h3
  let G':Gh:={U:=G1.U,cp:=G1.cp,ow:=λκ=>@ite _ (mine κ) (Classical.propDecidable _) (G1.ow κ) (G.ow κ),gen:=λκ=>(gn'.lookup κ).getD (G.gen κ),df:=G.df}
  have hG':∀ κ:Key,mine κ->G'.ow κ=G1.ow κ:=λκ hκ=>by simp only[G'];rw[if_pos hκ]
  have hG'n:∀ κ:Key,¬mine κ->G'.ow κ=G.ow κ:=λκ hκ=>by simp only[G'];rw[if_neg hκ]
  have hnot:∀ κ b,¬mine κ->G.ow κ=some b->w'.heap[b]? =w.heap[b]? /\G1.U b=G.U b:=by
   intro κ b hκ hb;refine h2.stay b (hw.lt κ b hb) (λκ2 h'=>?_);obtain⟨q1,q2⟩:=hG0s κ2 b h'
   have:=hw.inj κ2 κ b q2 hb;subst this;exact hκ q1
  have hgn1:∀ k g,gn'.lookup k=some g->G1.gen k=g:=λk g hl=>by rw[h3.gn k];exact g3 (k,g) (Ves hl)
  have hgmem:∀ k g,gn'.lookup k=some g->k∈gn.map (·.1):=λk g hl=>by rw[<-hgn'];exact Ze (Ves hl)
  have hgn2:∀ k g,gn'.lookup k=some g->G'.ow k=G1.ow k/\G1.gen k=g/\G'.gen k=g:=λk g hl=>
   ⟨hG' k (.inr (hgmem k g hl)),hgn1 k g hl,by simp only[G',hl,Zc]⟩
  have hid1:∀ i:Nat,i∈ids->G'.ow (i,0)=G1.ow (i,0):=λi hi=>hG' (i,0) (.inl ⟨hi,rfl⟩)
  have how:∀ κ b,G'.ow κ=some b->(mine κ/\G1.ow κ=some b)\/(¬mine κ/\G.ow κ=some b):=by
   intro κ b hκ;rcases hdec κ with hm|hm
   ·rw[hG' κ hm]at hκ;exact .inl ⟨hm,hκ⟩
   ·rw[hG'n κ hm]at hκ;exact .inr ⟨hm,hκ⟩
  have hmono:∀ κ,G.gen κ<=G'.gen κ:=by
   intro κ;simp only[G'];cases hl:gn'.lookup κ with
   |none=>simp
   |some g=>
    obtain⟨g0,hl0⟩:=Ver (hgmem κ g hl)
    have:=h2.gen κ;rw[hgn1 κ g hl]at this;simp only[G0,hl0,Zc]at this;simp only[Zc];rw[hgl κ g0 hl0];exact this
  have hext:Ext G w G' w':=by
   refine⟨h2.U,h2.imm,h2.size,h2.os,Prod.ext h2.toExt.tp rfl,h2.output,h2.cp,hmono,λκ h0 hge=>?_⟩;rcases hdec κ with hm|hm
   ·rcases hm with⟨_,hz⟩|hm2
    ·omega
    ·obtain⟨g0,hl0⟩:=Ver hm2;obtain⟨g,hl⟩:=Ver (l:=gn') (k:=κ) (by rw[hgn'];exact hm2)
     have hgg:G1.gen κ=G0.gen κ:=by
      have e1:G'.gen κ=g:=by simp only[G',hl,Zc]
      rw[hgn1 κ g hl];simp only[G0,hl0,Zc];rw[<-hgl κ g0 hl0, <-hge,e1]
     obtain⟨k1,k2⟩:=h2.tok κ h0 hgg;refine⟨by rw[hG' κ (.inr hm2),k1,hG0 κ (.inr hm2)],λb hb=>?_⟩;exact k2 b (by rw[hG0 κ (.inr hm2)];exact hb)
   ·exact⟨hG'n κ hm,λb hb=>hnot κ b hm hb⟩
  refine⟨h3.defers.trans h2.toExt.df,v,e1,v,G',rfl,⟨hext,?_,?_⟩,⟨?_,?_,h3.wf.zero⟩,?_,?_,?_,?_,λ_=>rfl⟩
  ·intro b hb' hno;exact h2.stay b hb' (λκ hκ=>hno κ (hG0s κ b hκ).2)
  ·intro κ b hκ;rcases how κ b hκ with⟨_,q⟩|⟨_,q⟩
   ·rcases h2.rng κ b q with⟨κ',h'⟩|h'
    ·exact .inl ⟨κ',(hG0s κ' b h').2⟩
    ·exact .inr h'
   ·exact .inl ⟨κ,q⟩
  ·intro κ κ' b hκ hκ'
   have cross:∀ κ κ',mine κ->G1.ow κ=some b->¬ mine κ'->G.ow κ'=some b->κ=κ':=by
    intro κ κ' m1 q1 m2 q2;rcases h2.rng κ b q1 with⟨κ2,h'⟩|h'
    ·obtain⟨r1,r2⟩:=hG0s κ2 b h'
     have:=hw.inj κ2 κ' b r2 q2;subst this;exact(m2 r1).elim
    ·have:=hw.lt κ' b q2;omega
   rcases how κ b hκ with⟨m1,q1⟩|⟨m1,q1⟩ <;>rcases how κ' b hκ' with⟨m2,q2⟩|⟨m2,q2⟩
   ·exact h3.wf.inj κ κ' b q1 q2
   ·exact cross κ κ' m1 q1 m2 q2
   ·exact(cross κ' κ m2 q2 m1 q1).symm
   ·exact hw.inj κ κ' b q1 q2
  ·intro κ b hκ;rcases how κ b hκ with⟨_,q⟩|⟨_,q⟩
   ·exact h3.wf.lt κ b q
   ·have:=hw.lt κ b q;have:=h2.size;omega
  ·rcases hfs with rfl|⟨k,g,sz,l,N,id,rfl,rfl,hid,hlt,hgn0,hk0,hgk⟩
   ·exact Vf3 (G:=G1) (G':=G') rfl rfl hres hid1 hgn2 e2r
   ·have hN:N<=w.heap.size:=hbr (id,.ge N) hid;obtain⟨_,_,ad0,cap,es,h1',h2',h3',h4',hn',hsp',h5',h6'⟩:=e2r
    show Rep G'.U w' (.fs N (k.2-1) l) v;simp only[Rep];refine⟨ad0,cap,es,sz,h1',h2',h3',hn',h4',λ_=>hsp',h5',λhl ad had=>?_⟩;rcases h6' (by rw[h3.gn k];exact hgk)with h0|⟨b,off,arr,e,ha,ho,hhp,_,_,hek⟩
    ·have e0:es=[]:=List.length_eq_zero_iff.1 (by rw[h2'.length];omega);subst e0;exact absurd rfl hl
    ·rw[ha]at had;simp only[Zb]at had;subst had;refine⟨?_,⟨arr,(0,0),by rw[show k.2-1=e by rw[<-hek];rfl];exact hhp⟩,λ_=>⟨arr,by rw[show k.2-1=e by rw[<-hek];rfl];exact hhp⟩⟩
     show N<=b;rcases h2.rng k b ho with⟨κ',h'⟩|h'
     ·exfalso;obtain⟨m,_⟩:=hG0s κ' b h';subst hgn0;rcases m with⟨hi,hz⟩|m
      ·obtain⟨κ1,κ2⟩:=κ';simp only at hi hz;subst hz
       have hi2:=hi;simp only[ids,List.mem_map]at hi2;obtain⟨p,hp,rfl⟩:=hi2
       have e9:=h4 p.1 ⟨hids p hp,hlt p hp⟩
       have:=h3.wf.inj (p.1,0) k b (by rw[e9];exact h') ho;rw[<-this]at hk0;simp at hk0
      ·simp at m
     ·omega
  ·intro p hp;obtain⟨x,hx,hxr⟩:=hk p hp
   have:=h3.bx _ (Vad (g2 (p.1,x) hx));exact hxr _ _ (Vf4 (G:=G1) (G':=G') rfl rfl hid1 hgn2 (by show p.1∈bx.map (·.1);rw[<-hsame];exact Ze hp) (hbx' (p.1,x) hx) this)
  ·intro i hi
   have hm:¬ mine (i,0):=by
    rintro(⟨q,_⟩|q)
    ·exact hi (by rw[hsame];exact q)
    ·simp only[List.mem_map]at q;obtain⟨p,hp,hpk⟩:=q
     have:=(hgk p hp).2;rw[hpk]at this;simp at this
   exact⟨hG'n _ hm,λb hb=>hnot _ b hm hb⟩
  ·intro i hiv;rcases hdec (i,0)with hm|hm
   ·rw[hG' _ hm]
    have hi:i∈ids:=by
     rcases hm with⟨q,_⟩|q
     ·exact q
     ·simp only[List.mem_map]at q;obtain⟨p,hp,hpk⟩:=q
      have:=(hgk p hp).2;rw[hpk]at this;simp at this
    have hi2:=hi;simp only[ids,List.mem_map]at hi2;obtain⟨p,hp,rfl⟩:=hi2
    have hlt:p.1<2000:=by
     have hm2:p.1∈bx'.map (·.1):=by rw[hsame];exact Ze hp
     simp only[List.mem_map]at hm2;obtain⟨q,hq,hqe⟩:=hm2;rcases hv q hq with h9|h9
     ·rw[<-hqe];exact h9
     ·rw[hqe]at h9;exact absurd h9 hiv
    rw[h4 p.1 ⟨hids p hp,hlt⟩,hid0 p.1 hi]
   ·exact hG'n _ hm
 cases e with
 |normal=>exact done h1
 |ret=>exact done h1
 |exit id=>exact h1.elim
 |goto l=>exact h1.elim
 |panic ch=>exact h1.elim
 |outgrown=>exact h1.elim
theorem Ve3 {f : FuncId} {fn : Func} {c : Code} (hf : P.funcs[f]? = some fn) (hb : fn.body = some c) (hname : (fn.name == "runtime.NumGoroutine") = false) {args : List SV} {bx bx' : List (Nat × ABox)} {gn gn' : List (Key × Nat)} {res : SV} {n : Nat} (hn : fn.ntmps = n)
  (hle:args.length<=n) (hids:∀ p∈bx,1000<=p.1) (hgk:∀ p∈gn,1000<=p.1.1/\0<p.1.2) (hargs:∀ s∈args,OkSV (bx.map (·.1)) gn s) (hbx:∀ p∈bx,∀s∈p.2.svs,OkSV (bx.map (·.1)) gn s)
  (hres:OkSV (bx.map (·.1)) gn' res) (hbx':∀ p∈bx',∀s∈p.2.svs,OkSV (bx.map (·.1)) gn' s) (hsame:bx'.map (·.1)=bx.map (·.1)) (hgn':gn'.map (·.1)=gn.map (·.1))
  (h:W P c (Ends P fn res bx' gn') ⟨args++List.replicate (n-args.length) .junk,bx,gn⟩) (hv:∀ p∈bx',p.1<2000\/p.1∈Vb8 bx':=by simp):Va2 P f args bx gn res bx' gn':=
 Vbl hf hb hname hn hle hids hgk hargs hbx hres hbx' hsame hgn' (Vfv h (λe S hE=>by
  cases e with
  |normal=>obtain⟨⟨keep,h1⟩,h2,h3⟩:=hE;exact⟨⟨keep,_,h1,.inl rfl⟩,h2,h3⟩
  |ret=>obtain⟨⟨keep,h1⟩,h2,h3⟩:=hE;exact⟨⟨keep,_,h1,.inl rfl⟩,h2,h3⟩
  |_=>exact hE.elim)) hv (λp hp=>⟨p.2,hp,λ_ _ h=>h⟩)
end
end Go.Eng
namespace Go.Proofs.YthbpjmogdonlkaaGreatDoor
open Go.Eng
end Go.Proofs.YthbpjmogdonlkaaGreatDoor
namespace Go.Eng
theorem an:All []:=trivial
theorem ac{p:Prop}{l:List Prop}(h:p)(h':All l):All (p::l):=⟨h,h'⟩
def WkC(S:St):CV->CV->Prop
 | .own k g sz l,.own k' g' sz' l'=>k=k'/\g=g'/\sz=sz'/\l=l'
 | .own _ _ _ l,.av x=>x=.sl l
 | .nil,.av x=>x=.sl []
 | .nil,.own k g _ l=>l=[]/\0<k.2/\S.gen k=g
 |s,s'=>s=s'
def WkCs(S:St):List CV->List CV->Prop
 |[],[]=>True
 |s::l,s'::l'=>WkC S s s'/\WkCs S l l'
 |_,_=>False
def WkS(S:St):SV->SV->Prop
 |_,.junk=>True
 | .own k g sz l,.own k' g' sz' l'=>k=k'/\g=g'/\sz=sz'/\l=l'
 | .own _ _ _ l,.av x=>x=.sl l
 | .nil,.av x=>x=.sl []
 | .nil,.own k g _ l=>l=[]/\0<k.2/\S.gen k=g
 | .av x,.son _=>x=.val (.pointer none)
 | .ptr b o,.son b'=>b=b'/\o=0
 | .ag l,.ag l'=>WkCs S l l'
 | .ag l,.av x=>x=.agg (l.map CV.toAV)
 |s,s'=>s=s'
theorem WkC_rep{G:Gh}{w:World}{S:St}(hg:∀ k:Key,G.gen k=S.gen k){s s':CV}{u:Value}(h:WkC S s s')(hr:RepC G w s u):RepC G w s' u:=by
 unfold WkC at h
 split at h
 ·obtain⟨rfl,rfl,rfl,rfl⟩:=h;exact hr
 ·subst h;exact RepC.toAV hr
 ·subst h;exact RepC.toAV hr
 ·obtain⟨rfl,h0,rfl⟩:=h;simp only[RepC]at hr;subst hr;exact⟨h0,by rw[hg];exact Nat.le_refl _,none,0,[],rfl,by simp[RepL],by simp,by simp,by simp,by simp,.inl (by simp[Va1]),λ_=>.inl ⟨rfl,.inl rfl⟩⟩
 ·subst h;exact hr
theorem WkCs_rep{G:Gh}{w:World}{S:St}(hg:∀ k:Key,G.gen k=S.gen k):∀ {l l':List CV} {us:List Value},WkCs S l l'->RepCs G w l us->RepCs G w l' us
 |[],[],_,_,h=>h
 |s::l,s'::l',us,h,hr=>by
  obtain⟨u,us',e,h2,h3⟩:=hr;exact⟨u,us',e,WkC_rep hg h.1 h2,WkCs_rep hg h.2 h3⟩
 |[],_::_,_,h,_=>h.elim
 |_::_,[],_,h,_=>h.elim
theorem WkS_rep{G:Gh}{w:World}{S:St}(hg:∀ k:Key,G.gen k=S.gen k){s s':SV}{u:Value}(h:WkS S s s')(hr:RepS G w s u):RepS G w s' u:=by
 unfold WkS at h
 split at h
 ·trivial
 ·obtain⟨rfl,rfl,rfl,rfl⟩:=h;exact hr
 ·subst h;exact hr.own_sl
 ·subst h;simp only[RepS]at hr;subst hr;exact Vf2 _ _
 ·obtain⟨rfl,h0,rfl⟩:=h;simp only[RepS]at hr;subst hr;exact⟨h0,by rw[hg];exact Nat.le_refl _,none,0,[],rfl,by simp[RepL],by simp,by simp,by simp,by simp,.inl (by simp[Va1]),λ_=>.inl ⟨rfl,.inl rfl⟩⟩
 ·subst h;simp only[RepS,Rep]at hr;exact .inl hr.1
 ·obtain⟨rfl,rfl⟩:=h;exact .inr hr
 ·obtain⟨us,h1,h2,h3⟩:=hr;exact⟨us,h1,WkCs_rep hg h h2,h3⟩
 ·subst h;obtain⟨us,h1,h2,h3⟩:=hr;simp only[RepS,Rep];exact⟨us,h1,h2.toAV,h3⟩
 ·subst h;exact hr
theorem hit{id:Nat}{Q:Exit->St->Prop}{S:St}(h:Q .normal S):Vgd id Q (.exit id) S:=by simp only[Vgd,if_true];exact h
theorem miss{id id':Nat}{Q:Exit->St->Prop}{S:St}(hne:id'≠id)(h:Q (.exit id') S):Vgd id Q (.exit id') S:=by simp only[Vgd,if_neg hne];exact h
theorem pass{id:Nat}{Q:Exit->St->Prop}{S:St}{e:Exit}(h:Q e S)(hne:∀ i,e≠ .exit i):Vgd id Q e S:=by
 cases e <;>first|exact h|exact(hne _ rfl).elim
theorem skipS{K:St->Prop}{Q:Exit->St->Prop}{S:St}{e:Exit}(h:Q e S)(hne:e≠ .normal):Voi K Q e S:=by
 cases e <;>first|exact h|exact(hne rfl).elim
theorem ends{P:Program}{fn:Func}{res r:SV}{bx':List (Nat×ABox)}{gn':List (Key×Nat)}{S:St}{e:Exit}(he:e=.ret\/e=.normal)(h1:aRes P fn S false=some r)(h2:r=res)(h3:∀ p∈bx',S.bx.lookup p.1=some p.2)(h4:∀ p∈gn',S.gen p.1=p.2):Ends P fn res bx' gn' e S:=by
 subst h2;rcases he with rfl|rfl <;>exact⟨⟨_,h1⟩,h3,h4⟩
theorem endsK{P:Program}{fn:Func}{res r:SV}{bx':List (Nat×ABox)}{gn':List (Key×Nat)}{S:St}{e:Exit}(he:e=.ret\/e=.normal)(h1:aRes P fn S true=some r)(h2:r=res)(h3:∀ p∈bx',S.bx.lookup p.1=some p.2)(h4:∀ p∈gn',S.gen p.1=p.2):Ends P fn res bx' gn' e S:=by
 subst h2;rcases he with rfl|rfl <;>exact⟨⟨_,h1⟩,h3,h4⟩
theorem wrap_i64{n:Int}(h1: -9223372036854775808<=n)(h2:n<=9223372036854775807):IntKind.i64.wrap n=n:=IntWalk.i64_in n ⟨h1,h2⟩
def byt(s:ByteArray)(k:Nat):Nat:=(s.data.getD k 0).toNat
theorem Vah{a b:Int}(h:(a !=b)=false):a=b:=by simpa using h
def Vay(t:ByteArray):AV:=.val (.string t)
end Go.Eng
