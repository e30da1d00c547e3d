/- Texts joined by a program (merge.py). -/
import Derived.Test.YthbpjmogdonlkaaGreatDoorMlf
import Derived.Test.YthbpjmogdonlkaaGreatDoorMle
import Derived.KernelRfl
set_option linter.unusedSimpArgs false
set_option linter.unusedVariables false
set_option maxRecDepth 100000
set_option maxHeartbeats 4000000
open ByteArray renaming size -> Za
open List renaming mem_cons -> Zb
open List renaming getElem?_eq_getElem -> Zc
open Array renaming getElem?_eq_some_iff -> Zd
open List renaming getD_eq_getElem?_getD -> Ze
open Nat renaming lt_succ_self -> Zf
open List renaming getElem?_eq_none -> Zg
open List renaming length_map -> Zh
open Option.some renaming injEq -> Zi
open Nat renaming lt_or_ge -> Zj
open List renaming getElem?_map -> Zk
open Nat renaming le_refl -> Zl
open Bool renaming not_false -> Zm
open Option renaming map_some -> Zn
open Bool renaming not_true -> Zo
open Int renaming le_refl -> Zp
open List renaming range -> Zq
open Option renaming getD_some -> Zr
open List renaming getElem?_append_left -> Zs
open List renaming length_append -> Zt
open List renaming length -> Zu
open List renaming getElem?_cons_zero -> Zv
open List renaming getElem?_set -> Zw
open List renaming ext_getElem? -> Zx
namespace Go.Proofs.YthbpjmogdonlkaaGreatDoor
open Go Go.Eng Go.RowKit Go.Shelf
attribute [local go_sem] Oper.semAt_some
theorem raw_of{P:Program}{f:FuncId}{args:List SV}{vs:Array Value}{res:AV}{v:Value}(h:Va2 P f args [] [] (.av res) [] [])(hargs:∀(G:Gh)(w:World),RepSs G w args vs.toList)(hres:∀(U:Nat->Nat)(w:World)(u:Value),Rep U w res u->u=v)(w:World):
  Calls P f vs w λe w'=>e=.returned v/\Below w.heap.size w w':=by
 let G:Gh:={U:=λ_=>0,cp:=λ_=>0,ow:=λ_=>none,gen:=λ_=>0,df:=[]}
 have hw:Wf G w:=⟨λκ κ' b h1 _=>by simp[G]at h1,λκ b h1=>by simp[G]at h1,λ_ _=>rfl⟩
 have:=h.2 G w vs.toList hw (hargs G w) ku ku;simp only[Array.toArray_toList]at this;refine this.mono ?_;rintro e w' ⟨u,G',rfl,s1,s2,s3,_⟩;refine⟨by rw[hres _ _ _ s3],s1.toExt.os,s1.toExt.tp,s1.toExt.output,s1.toExt.size,λb hb=>(s1.stay b hb (λκ h=>by simp[G]at h)).1⟩
def citL(c:DCited):List Value:=[.string c.fKey,.string c.fPrefix,.string c.fSuffix,.bool c.fBare]
def citV(c:DCited):Value:=.agg #[.string c.fKey,.string c.fPrefix,.string c.fSuffix,.bool c.fBare]
theorem cit_in(s:ByteArray)(hs:s.size<=1073741824)(w:World):Calls Tryz.prog 235 #[.string s] w λe w'=>e=.returned (.tuple #[citV (citF s).1,.bool (citF s).2])/\Below w.heap.size w w':=by
 have hc:=citF_to s hs;refine raw_of hc (λG w=>⟨_,_,rfl,⟨rfl,rfl⟩,rfl⟩) (λU w u hu=>?_) w;obtain⟨us,rfl,a,l1,e1,ha,b,l2,e2,hb,e3⟩:=hu;obtain⟨vs,rfl,ha, -⟩:=ha;obtain⟨x1,m1,f1,h1,x2,m2,f2,h2,x3,m3,f3,h3,x4,m4,f4,h4,f5⟩:=ha
 have e3:l2=[]:=e3
 have f5:m4=[]:=f5;subst e3 f5;obtain⟨rfl, -⟩:=h1;obtain⟨rfl, -⟩:=h2;obtain⟨rfl, -⟩:=h3;obtain⟨rfl, -⟩:=h4;obtain⟨rfl, -⟩:=hb;subst f4 f3 f2;subst e2
 have g1:vs=#[.string (citF s).1.fKey,.string (citF s).1.fPrefix,.string (citF s).1.fSuffix,.bool (citF s).1.fBare]:=Array.toList_inj.1 f1;subst g1
 have g2:us=#[citV (citF s).1,.bool (citF s).2]:=Array.toList_inj.1 e1;rw[g2]
def CTN:ByteArray:=⟨#[91,93,123,96,36,10]⟩
theorem ctnN_to(s:ByteArray)(hs:s.size<=1073741824):Va2 Tryz.prog 176 [jS s,jS CTN] [] [] (jB (ctnG s CTN)) [] []:=ctnG_to s CTN hs gj gj (A7.lit gj)
theorem ctn_in(s:ByteArray)(hs:s.size<=1073741824)(h:ctnG s CTN=false)(w:World):Calls Tryz.prog 176 #[.string s,.string CTN] w λe w'=>e=.returned (.bool false)/\Below w.heap.size w w':=by
 have hc:=ctnN_to s hs;rw[h]at hc;exact raw_of hc (λG w=>⟨_,_,rfl,⟨rfl,rfl⟩,_,_,rfl,⟨rfl,rfl⟩,rfl⟩) (λU w u hu=>hu.1) w
theorem sw3_cells(s:ByteArray)(A:World):(sw3 s A).heap[A.heap.size]? =some (Vej s)/\(sw3 s A).heap[A.heap.size+1]? =some (Vej SEMI)/\(sw3 s A).heap[A.heap.size+2]? =some (intOb 0)/\(sw3 s A).heap.size=A.heap.size+3/\Below A.heap.size A (sw3 s A):=by
 unfold sw3;refine⟨?_,?_,?_,by simp,((((Below.refl _ A).alloc (Zl _) _).alloc ku _).alloc (by simp;omega) _)⟩
 ·refine(Below.heap_alloc _ _ _ (by simp;omega)).trans ((Below.heap_alloc _ _ _ ku).trans ?_);exact World.alloc_heap_new A _
 ·refine(Below.heap_alloc _ _ _ ku).trans ?_
  have:=World.alloc_heap_new (A.alloc (.cells #[.string s] 9)) (.cells #[.string SEMI] 9);rwa[World.size_alloc]at this
 ·have:=World.alloc_heap_new ((A.alloc (.cells #[.string s] 9)).alloc (.cells #[.string SEMI] 9)) (.cells #[.int .i64 0] 3);rw[World.size_alloc,World.size_alloc]at this;exact this
theorem Vkc{β:Type}(B k:Nat)(o:Obj)(ho:o.isCells=true):OwnFrom B (λ(_:β)(W:World)=>W.heap[k]? =some o):=by
 intro s W W' row hs hg hr;refine(hg.block k (Zd.1 hs).1 (λe=>?_)).trans hs;obtain⟨_,o',h1,h2⟩:=hr k e.symm;rw[hs]at h1;cases h1;rw[ho]at h2;cases h2
def oV(v:Value):Obj:=.cells #[v] 40
def oF:Obj:=.cells #[Value.bool false] 4
def cuts(pre:List ByteArray):List DCited:=pre.map (λx=>(citF x).1)
def cutC(pre:List ByteArray):List Value:=(cuts pre).flatMap citL
def OwnC(base C:Nat)(pre:List ByteArray)(W:World):Prop:=∃ v,W.heap[C]? =some (oV v)/\W.ownsRow base 77 4 v pre.length (cutC pre)/\base<=W.heap.size
theorem ownC_own(B base C:Nat):OwnFrom B (OwnC base C):=by
 rintro s W W' row ⟨v,h1,h2,h3⟩ hg hr;refine⟨v,(Vkc (β:=Unit) B C (oV v) rfl) () W W' row h1 hg hr,h2.kept hg ?_,Nat.le_trans h3 hg.size⟩;rcases h2.2 with⟨rfl,_⟩|⟨g,cap,cur,rfl,_,hc,_⟩
 ·exact .inl rfl
 ·refine .inr (λe=>?_);obtain⟨_,o,h3,h4⟩:=hr g e.symm;rw[hc]at h3;cases h3;cases h4
theorem ownC_set{base C:Nat}{pre:List ByteArray}{A:World}{Bs:Nat}{r r':ByteArray}(h:OwnC base C pre A)(hs:A.heap[Bs]? =some (Vej r))(hC:C≠Bs)(hb:Bs<base):OwnC base C pre (A.setCell ⟨Bs,0,none⟩ (.string r')):=by
 obtain⟨v,h1,h2,h3⟩:=h;refine⟨v,(Vco hC).trans h1,?_,by simpa[World.setCell]using h3⟩;refine⟨h2.1,?_⟩;rcases h2.2 with hn|⟨g,cap,cur,rfl,hg,hc,rest⟩
 ·exact .inl hn
 ·exact .inr ⟨g,cap,cur,rfl,hg,(Vco kv).trans hc,rest⟩
end Go.Proofs.YthbpjmogdonlkaaGreatDoor
set_option maxRecDepth 100000
namespace Go.Proofs.YthbpjmogdonlkaaGreatDoor
open Go Go.Eng Go.RowKit Go.Shelf
def Gp(W:World)(b p:Nat):Prop:=(∃k,W.cell? ⟨b,p,none⟩=some (.int .i64 k))/\(∀j,1<=j->j<5->∃ s,W.cell? ⟨b,p+j,none⟩=some (.string s))/\∀ j,5<=j->j<10->∃ a n c,W.cell? ⟨b,p+j,none⟩=some (.slice a n c)
theorem Gp.apart{W:World}{b p q:Nat}(h:Gp W b p)(k:Gp W b q)(hpq:p<q):p+10<=q:=by
 obtain⟨i,hi⟩:=k.1;rcases Zj q (p+10)with hlt|hge
 ·exfalso;obtain⟨d,rfl⟩:∃ d,q=p+d:=⟨q-p,by omega⟩
  by_cases h5:d<5
  ·obtain⟨s,hs⟩:=h.2.1 d kv h5;rw[hs]at hi;cases hi
  ·obtain⟨a,n,c,hs⟩:=h.2.2 d kv kv;rw[hs]at hi;cases hi
 ·exact hge
theorem Gp.same{W:World}{b p q:Nat}(h:Gp W b p)(k:Gp W b q)(h1:p<q+10)(h2:q<p+10):p=q:=by
 rcases Nat.lt_trichotomy p q with e|e|e
 ·have:=h.apart k e;omega
 ·exact e
 ·have:=k.apart h e;omega
section
variable (N m:Nat) (w w1:World) (V:Nat->List Value) (ue:Value)
def Th(b:Nat):Prop:=N<=b/\PlB w1 b 42
structure Ph (b p k:Nat):Prop where
 lt:k<m
 gp:Gp w1 b p
 kd:w1.cell? ⟨b,p,none⟩=some (.int .i64 (-1))
 tx:w1.cell? ⟨b,p+1,none⟩=some (.string (itoa k))
def SmG(W:World)(b p:Nat):Prop:=∀ j,j<10->W.cell? ⟨b,p+j,none⟩=w1.cell? ⟨b,p+j,none⟩
def RpG(W:World)(b p k:Nat):Prop:=∀ j,j<10->W.cell? ⟨b,p+j,none⟩=(V k)[j]?
structure Rr (W:World):Prop where
 low:Below N w W
 sz:w1.heap.size<=W.heap.size
 keep:∀ b,b<w1.heap.size->¬ Th N w1 b->W.heap[b]? =w1.heap[b]?
 pl:∀ b,Th N w1 b->PlB W b 42
 out:∀ b o,Th N w1 b->(∀p k,Ph m w1 b p k->p<=o->p+10<=o)->W.cell? ⟨b,o,none⟩=w1.cell? ⟨b,o,none⟩
 ins:∀ b p k,Th N w1 b->Ph m w1 b p k->SmG w1 W b p\/RpG V W b p k
def Mono(W W':World):Prop:=∀ b p k,Th N w1 b->Ph m w1 b p k->RpG V W b p k->RpG V W' b p k
structure VOk (k:Nat):Prop where
 len:(V k).length=10
 one:∀ x∈V k,x.oneCell'=true
 kd:∃ i,(V k)[0]? =some (.int .i64 i)/\i≠ -1
 ks:∃ u,(V k)[9]? =some u/\∀ W,Below N w W->Calls Tryz.prog 95 #[u,ue] W λe W'=>e=.returned (.tuple #[])/\Below W.heap.size W W'
end
theorem mid_in(L vs:List Value)(p j:Nat)(hp:p<=L.length)(hj:j<vs.length):(L.take p++vs++L.drop (p+vs.length))[p+j]? =vs[j]? :=by
 have h1:(L.take p).length=p:=by rw[List.length_take];omega
 rw[List.append_assoc,List.getElem?_append_right kv,h1,Nat.add_sub_cancel_left,Zs hj]
theorem mid_out(L vs:List Value)(p o:Nat)(hp:p+vs.length<=L.length)(ho:o<p\/p+vs.length<=o):(L.take p++vs++L.drop (p+vs.length))[o]? =L[o]? :=by
 have h1:(L.take p).length=p:=by rw[List.length_take];omega
 rcases ho with q|q
 ·rw[List.append_assoc,Zs kv,List.getElem?_take,if_pos q]
 ·rw[List.getElem?_append_right (by rw[Zt];omega),List.getElem?_drop,Zt,h1];congr 1;omega
section
variable {N m:Nat} {w w1:World} {V:Nat->List Value} {ue:Value}
theorem Th.lt{b:Nat}(h:Th N w1 b):b<w1.heap.size:=by
 obtain⟨_,arr,h2⟩:=h;exact(Zd.1 h2).1
theorem Mono.refl(W:World):Mono N m w1 V W W:=λ_ _ _ _ _ h=>h
theorem Mono.trans{A B C:World}(h:Mono N m w1 V A B)(k:Mono N m w1 V B C):Mono N m w1 V A C:=λb p i hT hP hr=>k b p i hT hP (h b p i hT hP hr)
theorem Vhj{W W':World}{b:Nat}(h:W'.heap[b]? =W.heap[b]?)(o:Nat):W'.cell? ⟨b,o,none⟩=W.cell? ⟨b,o,none⟩:=by simp only[World.cell?,h]
theorem Rr.of_same{W W':World}(h:Rr N m w w1 V W)(hl:Below N w W')(hz:w1.heap.size<=W'.heap.size)(hs:∀ b,b<w1.heap.size->W'.heap[b]? =W.heap[b]?):Rr N m w w1 V W'/\Mono N m w1 V W W':=by
 have hc:∀ b o,Th N w1 b->W'.cell? ⟨b,o,none⟩=W.cell? ⟨b,o,none⟩:=λb o hb=>Vhj (hs b hb.lt) o
 refine⟨⟨hl,hz,λb hb hT=>(hs b hb).trans (h.keep b hb hT),λb hb=>?_,λb o hb ho=>(hc b o hb).trans (h.out b o hb ho),λb p k hb hp=>?_⟩,λb p k hb hp hr j hj=>(hc b _ hb).trans (hr j hj)⟩
 ·obtain⟨arr,ha⟩:=h.pl b hb;exact⟨arr,(hs b hb.lt).trans ha⟩
 ·exact(h.ins b p k hb hp).imp (λq j hj=>(hc b _ hb).trans (q j hj)) (λq j hj=>(hc b _ hb).trans (q j hj))
theorem Rr.below{W W':World}(h:Rr N m w w1 V W)(hN:N<=W.heap.size)(hb:Below W.heap.size W W'):Rr N m w w1 V W'/\Mono N m w1 V W W':=
 h.of_same (h.low.trans (hb.mono hN)) (Nat.le_trans h.sz hb.size) (λb hlt=>hb.block b (Nat.lt_of_lt_of_le hlt h.sz))
theorem Rr.put{W:World}(h:Rr N m w w1 V W)(hm:m<=2048){b p k:Nat}(hT:Th N w1 b)(hP:Ph m w1 b p k)(hV:VOk N w V ue k):
  ∃W',(∀P:Program,(storeCells ⟨b,p,none⟩ (V k)).run P W=.ok () W')/\Rr N m w w1 V W'/\Mono N m w1 V W W'/\RpG V W' b p k:=by
 obtain⟨arr,ha⟩:=h.pl b hT
 have hsome:∀ j,j<10->∃ v,W.cell? ⟨b,p+j,none⟩=some v:=by
  intro j hj;rcases h.ins b p k hT hP with q|q
  ·rw[q j hj];rcases Zj j 5 with h5|h5
   ·rcases Nat.eq_zero_or_pos j with rfl|h0
    ·exact⟨_,hP.kd⟩
    ·obtain⟨s,hs⟩:=hP.gp.2.1 j h0 h5;exact⟨_,hs⟩
   ·obtain⟨a,n,c,hs⟩:=hP.gp.2.2 j h5 hj;exact⟨_,hs⟩
  ·rw[q j hj];exact⟨(V k)[j]'(by rw[hV.len];exact hj),by rw[Zc]⟩
 have hsz:p+10<=arr.size:=by
  obtain⟨v,hv⟩:=hsome 9 gj;simp only[World.cell?,ha]at hv;rcases Zj (p+9) arr.size with q|q
  ·omega
  ·have:arr[p+9]? =none:=Array.getElem?_eq_none q;simp[this]at hv
 obtain⟨A',hA'⟩:∃ A',A'=(arr.toList.take p++V k++arr.toList.drop (p+(V k).length)).toArray:=⟨_,rfl⟩
 have hst:∀ P:Program,(storeCells ⟨b,p,none⟩ (V k)).run P W=.ok () (W.setRow b A'):=λP=>by
  have:=run_storeCells_at (P:=P) b p 42 (V k) 0 arr W ha (by rw[hV.len];omega) hV.one;rw[hA'];simpa using this
 have hW':(W.setRow b A').heap[b]? =some (.cells A' 42 (0,0)):=setRow_heap W b arr _ 42 _ ha
 have hoth:∀ i,i≠b->(W.setRow b A').heap[i]? =W.heap[i]? :=λi hi=>setRow_other W b i A' hi
 have hcA:∀ o,(W.setRow b A').cell? ⟨b,o,none⟩=A'[o]? :=λo=>by simp only[World.cell?,hW'];rfl
 have hcW:∀ o,W.cell? ⟨b,o,none⟩=arr[o]? :=λo=>by simp only[World.cell?,ha];rfl
 have hin:∀ j,j<10->(W.setRow b A').cell? ⟨b,p+j,none⟩=(V k)[j]? :=by
  intro j hj;rw[hcA,hA',List.getElem?_toArray];exact mid_in arr.toList (V k) p j (by have e:arr.toList.length=arr.size:=rfl;omega) (by rw[hV.len];exact hj)
 have hout:∀ o,(p<=o->p+10<=o)->(W.setRow b A').cell? ⟨b,o,none⟩=W.cell? ⟨b,o,none⟩:=by
  intro o ho;rw[hcA,hcW,hA',List.getElem?_toArray,mid_out arr.toList (V k) p o (by have:=hV.len;have e:arr.toList.length=arr.size:=rfl;omega) (by have:=hV.len;omega),Array.getElem?_toList]
 have hlow:Below N w (W.setRow b A'):=by
  obtain⟨e1,e2,e3,e4,e5⟩:=h.low;exact⟨e1,e2,e3,by simpa using e4,λi hi=>(hoth i (λe=>by have:=hT.1;omega)).trans (e5 i hi)⟩
 have hcell:∀ b' o,Th N w1 b'->(b'=b->p<=o->p+10<=o)->(W.setRow b A').cell? ⟨b',o,none⟩=W.cell? ⟨b',o,none⟩:=by
  intro b' o _ ho
  by_cases e:b'=b
  ·subst e;exact hout o (ho rfl)
  ·exact Vhj (hoth b' e) o
 have hgrp:∀ b' p' k',Ph m w1 b' p' k'->(b'=b/\p'=p/\k'=k)\/(∀j,j<10->b'=b->p<=p'+j->p+10<=p'+j):=by
  intro b' p' k' hP'
  by_cases e:b'=b
  ·subst e
   by_cases e2:p'=p
   ·subst e2;refine .inl ⟨rfl,rfl,itoa_inj (by have:=hP'.lt;omega) (by have:=hP.lt;omega) ?_⟩
    have:=hP'.tx.symm.trans hP.tx;simpa using this
   ·refine .inr (λj hj _ hle=>?_);rcases Zj p' p with q|q
    ·have:=hP'.gp.apart hP.gp q;omega
    ·have:=hP.gp.apart hP'.gp kv;omega
  ·exact .inr (λj hj e'=>absurd e' e)
 refine⟨W.setRow b A',hst,⟨hlow,by simpa using h.sz,λi hi hT'=>?_,λi hi=>?_,λb' o hb' ho=>?_,λb' p' k' hb' hP'=>?_⟩,λb' p' k' hb' hP' hr=>?_,hin⟩
 ·exact(hoth i (λe=>hT' (e ▸ hT))).trans (h.keep i hi hT')
 ·by_cases e:i=b
  ·subst e;exact⟨A',hW'⟩
  ·obtain⟨arr',ha'⟩:=h.pl i hi;exact⟨arr',(hoth i e).trans ha'⟩
 ·refine(hcell b' o hb' (λe=>?_)).trans (h.out b' o hb' ho);subst e;exact ho p k hP
 ·rcases hgrp b' p' k' hP' with⟨rfl,rfl,rfl⟩|hg
  ·exact .inr hin
  ·exact(h.ins b' p' k' hb' hP').imp (λq j hj=>(hcell b' _ hb' (hg j hj)).trans (q j hj)) (λq j hj=>(hcell b' _ hb' (hg j hj)).trans (q j hj))
 ·rcases hgrp b' p' k' hP' with⟨rfl,rfl,rfl⟩|hg
  ·exact hin
  ·exact λj hj=>(hcell b' _ hb' (hg j hj)).trans (hr j hj)
theorem Rr.stay{W:World}(h:Rr N m w w1 V W){b p:Nat}(hT:Th N w1 b)(hg:Gp w1 b p){i:Int}(hk:w1.cell? ⟨b,p,none⟩=some (.int .i64 i))(hi:i≠ -1):SmG w1 W b p:=by
 intro j hj;refine h.out b (p+j) hT (λq k hP hle=>?_);rcases Zj (p+j) (q+10)with hlt|hge
 ·exfalso
  have e:=hg.same hP.gp kv kv;subst e;rw[hP.kd]at hk;simp only[Zi,Value.int.injEq,true_and]at hk;exact hi hk.symm
 ·exact hge
end
end Go.Proofs.YthbpjmogdonlkaaGreatDoor
namespace Go.Proofs.YthbpjmogdonlkaaGreatDoor
open Go Go.Eng Go.RowKit Go.Shelf
attribute [local go_sem] Oper.semAt_some
theorem fs_at{U:Nat->Nat}{N:Nat}{w:World}{l:List DInline}{u:Value}(hu:Rep U w (.fs N 42 (l.map (gI N))) u):∃ a cap,u=.slice a l.length cap/\∀ i,i<l.length->∃ b off,a=some ⟨b,off,none⟩/\Th N w b/\(∃us:List Value,us.length=10/\(∀j,j<10->w.cell? ⟨b,off+i*10+j,none⟩=us[j]?)/\Rep U w (gI N (el l i)) (.agg us.toArray)):=by
 simp only[Rep]at hu;obtain⟨a,cap,es,sz,e1,h2,h3,h4,h5,h6,h7,h8⟩:=hu;rw[Zh]at e1;refine⟨a,cap,e1,λi hi=>?_⟩
 have hsz:∀ e∈es,e.cells.size=10:=(uniGL N l).sizes h2
 have hlen:=h2.length;rw[Zh]at hlen;obtain⟨e,he,hr⟩:=h2.get i (gI N (el l i)) (by simp[Vkw hi])
 have hr0:=hr;rw[gI_eq]at hr;unfold agI at hr;simp only[Rep]at hr;obtain⟨us,rfl,hr2,hr3⟩:=hr
 have hus:us.toList.length=10:=by have:=hr2.length;simpa using this
 have hvl:(Va1 es).length=es.length*10:=Vac es hsz
 have hne:Va1 es≠[]:=by
  intro e0;rw[e0]at hvl;simp only[List.length_nil]at hvl;omega
 rcases h7 with h7|⟨b,off,ha,hle,hc⟩
 ·exact absurd h7 hne
 ·refine⟨b,off,ha,⟨(h8 hne _ ha).1,(h8 hne _ ha).2.2 gj⟩,us.toList,hus,λj hj=>?_,by simpa using hr0⟩
  have hj2:us.toList[j]? =some (us.toList[j]'(by omega)):=Zc _
  have:=Vd4 es i _ hsz he j _ (show(Value.agg us).cells.toList[j]? =some _ from hj2);rw[hj2]
  have h9:=(hc (i*10+j) _ this).1;rwa[<-Nat.add_assoc]at h9
theorem list10{us:List Value}(h:us.length=10):∃ u0 u1 u2 u3 u4 u5 u6 u7 u8 u9,us=[u0,u1,u2,u3,u4,u5,u6,u7,u8,u9]:=by
 match us,h with
 |[u0,u1,u2,u3,u4,u5,u6,u7,u8,u9],_=>exact⟨u0,u1,u2,u3,u4,u5,u6,u7,u8,u9,rfl⟩
theorem Rep.slc{U:Nat->Nat}{w:World}{n t:Nat}{l:List AV}{u:Value}(h:Rep U w (.fs n t l) u):∃ a k c,u=.slice a k c:=by
 simp only[Rep]at h;obtain⟨a,cap,es,sz,e1,_⟩:=h;exact⟨a,_,cap,e1⟩
structure ElL (N m:Nat) (w:World) (V:Nat->List Value) (ue:Value):Prop where
 at':∀ k,k<m->∃ eb eo cap,ue=.slice (some ⟨eb,eo,none⟩) m cap/\eb<N/\∀ j,j<10->w.cell? ⟨eb,eo+k*21+(2+j),none⟩=(V k)[j]?
 ok:∀ k,k<m->VOk N w V ue k
 sl:∃ a c,ue=.slice a m c
structure Prt (U:Nat->Nat) (N:Nat) (w:World) (x:DInline) (b p:Nat) (uk:Value):Prop where
 th:Th N w b
 gp:Gp w b p
 kd:w.cell? ⟨b,p,none⟩=some (.int .i64 x.fKind)
 tx:w.cell? ⟨b,p+1,none⟩=some (.string x.fText)
 ks:w.cell? ⟨b,p+9,none⟩=some uk
 rp:Rep U w (.fs N 42 (x.fKids.map (gI N))) uk
theorem prt_of{U:Nat->Nat}{N:Nat}{w:World}{x:DInline}{b p:Nat}{us:List Value}(hT:Th N w b)(hl:us.length=10)(hc:∀ j,j<10->w.cell? ⟨b,p+j,none⟩=us[j]?)(hr:Rep U w (gI N x) (.agg us.toArray)):∃ uk,Prt U N w x b p uk:=by
 obtain⟨u0,u1,u2,u3,u4,u5,u6,u7,u8,u9,rfl⟩:=list10 hl;rw[gI_eq]at hr;unfold agI at hr;simp only[Rep]at hr;obtain⟨vs,e,h1,h2⟩:=hr
 have e2:vs.toList=[u0,u1,u2,u3,u4,u5,u6,u7,u8,u9]:=by
  simp only[Value.agg.injEq]at e;rw[<-e]
 rw[e2]at h1;obtain⟨x0,l0,f0,r0,x1,l1,f1,r1,x2,l2,f2,r2,x3,l3,f3,r3,x4,l4,f4,r4,x5,l5,f5,r5,x6,l6,f6,r6,x7,l7,f7,r7,x8,l8,f8,r8,x9,l9,f9,r9,f10⟩:=h1;cases f0;cases f1;cases f2;cases f3;cases f4;cases f5;cases f6;cases f7;cases f8;cases f9
 have s5:=Rep.slc r5
 have s6:=Rep.slc r6
 have s7:=Rep.slc r7
 have s8:=Rep.slc r8
 have s9:=Rep.slc r9
 have c0:=hc 0 gj;have c1:=hc 1 gj;have c2:=hc 2 gj;have c3:=hc 3 gj;have c4:=hc 4 gj
 have c5:=hc 5 gj;have c6:=hc 6 gj;have c7:=hc 7 gj;have c8:=hc 8 gj;have c9:=hc 9 gj;obtain⟨rfl, -⟩:=r0;obtain⟨rfl, -⟩:=r1;obtain⟨rfl, -⟩:=r2;obtain⟨rfl, -⟩:=r3;obtain⟨rfl, -⟩:=r4;refine⟨u9,hT,⟨⟨_,c0⟩,λj h1 h2=>?_,λj h1 h2=>?_⟩,c0,c1,c9,r9⟩
 ·match j,h1,h2 with
  |1,_,_=>exact⟨_,c1⟩
  |2,_,_=>exact⟨_,c2⟩
  |3,_,_=>exact⟨_,c3⟩
  |4,_,_=>exact⟨_,c4⟩
  |0,h,_=>omega
  |j+5,_,h=>omega
 ·obtain⟨a5,k5,d5,e5⟩:=s5;obtain⟨a6,k6,d6,e6⟩:=s6;obtain⟨a7,k7,d7,e7⟩:=s7;obtain⟨a8,k8,d8,e8⟩:=s8;obtain⟨a9,k9,d9,e9⟩:=s9
  match j,h1,h2 with
  |5,_,_=>exact⟨a5,k5,d5,by rw[c5, <-e5];rfl⟩
  |6,_,_=>exact⟨a6,k6,d6,by rw[c6, <-e6];rfl⟩
  |7,_,_=>exact⟨a7,k7,d7,by rw[c7, <-e7];rfl⟩
  |8,_,_=>exact⟨a8,k8,d8,by rw[c8, <-e8];rfl⟩
  |9,_,_=>exact⟨a9,k9,d9,by rw[c9, <-e9];rfl⟩
  |0,h,_=>omega
  |1,h,_=>omega
  |2,h,_=>omega
  |3,h,_=>omega
  |4,h,_=>omega
  |j+10,_,h=>omega
section
variable {N m:Nat} {w w1:World} {V:Nat->List Value} {ue:Value} {U:Nat->Nat}
inductive Dn (N m:Nat) (U:Nat->Nat) (w1:World) (V:Nat->List Value) (W:World):List DInline->Value->Prop
 | mk {l:List DInline} {u:Value} (h0:∀ a cap,u=.slice a l.length cap->∀ j b off,j<l.length->a=some ⟨b,off,none⟩->(el l j).fKind= -1->RpG V W b (off+j*10) (itoN (el l j).fText)/\Th N w1 b/\Ph m w1 b (off+j*10) (itoN (el l j).fText))
   (h2:∀ i b off cap x,i<l.length->u=.slice (some ⟨b,off,none⟩) l.length cap->(el l i).fKind≠ -1->w1.cell? ⟨b,off+i*10+9,none⟩=some x->Dn N m U w1 V W (el l i).fKids x):Dn N m U w1 V W l u
theorem Dn.mono{A B:World}{l:List DInline}{u:Value}(h:Dn N m U w1 V A l u)(hm:Mono N m w1 V A B):Dn N m U w1 V B l u:=by
 induction h with
 | mk h0 h2 ih=>exact .mk (fun a cap e j b off hj ha hk=>by
   obtain⟨q1,q2,q3⟩:=h0 a cap e j b off hj ha hk
   exact⟨hm _ _ _ q2 q3 q1,q2,q3⟩) (λi b off cap x hi e hk hx=>ih i b off cap x hi e hk hx)
theorem Vcn{P:Program}{b o j:Nat}{v:Value}{vs:List Value}{A B:World}(h:(storeCells ⟨b,o,none⟩ (v::vs) j).run P A=.ok () B):∃ X,(store ⟨b,o+j,none⟩ v).run P A=.ok () X/\(storeCells ⟨b,o,none⟩ vs (j+1)).run P X=.ok () B:=by
 simp only[storeCells,Sem.run_bind,Vba]at h;cases hs:(store ⟨b,o+j,none⟩ v).run P A with
 |ok u X=>rw[hs]at h;exact⟨X,rfl,h⟩
 |_=>rw[hs]at h;simp[Result.andThen]at h
def AtL(U:Nat->Nat)(N:Nat)(w1:World)(l:List DInline)(a:Option Addr):Prop:=∀ i,i<l.length->∃ b off,a=some ⟨b,off,none⟩/\Th N w1 b/\(∃us:List Value,us.length=10/\(∀j,j<10->w1.cell? ⟨b,off+i*10+j,none⟩=us[j]?)/\Rep U w1 (gI N (el l i)) (.agg us.toArray))
theorem Mono.rp{A B:World}(h:Mono N m w1 V A B){l:List DInline}{a:Option Addr}{cap:Nat}(hp:∀ x∈l,AllI (PhP m) x)(hm:m<=2048)(hat:AtL U N w1 l a){j:Nat}(hj:j<l.length){b off cap':Nat}(_:j<l.length)(e:Value.slice a l.length cap=.slice (some ⟨b,off,none⟩) l.length cap')(hk:(el l j).fKind= -1)(hr:RpG V A b (off+j*10) (itoN (el l j).fText)):RpG V B b (off+j*10) (itoN (el l j).fText):=by
 obtain⟨k,hkm,ht⟩:=(Vaj.1 (hp _ (Vcp (l:=l) (i:=j) hj))).1.1 hk;obtain⟨b2,off2,rfl,hT2,us2,hul2,huc2,hur2⟩:=hat j hj;cases e;obtain⟨uk2,hq2⟩:=prt_of hT2 hul2 huc2 hur2;rw[ht,Vbs kv]at hr ⊢;exact h _ _ _ hT2 ⟨hkm,hq2.gp,by rw[<-hk];exact hq2.kd,by rw[<-ht];exact hq2.tx⟩ hr
theorem rs_in(hm:m<=2048)(hN:N<=w1.heap.size)(hE:ElL N m w V ue):∀(n:Nat)(l:List DInline)(u:Value)(W:World),SizeOf.sizeOf l<n->Rep U w1 (.fs N 42 (l.map (gI N))) u->(∀x∈l,AllI (PhP m) x)->l.length<=1073741824->Rr N m w w1 V W->
  CallsIn Fence.wide 0 Tryz.prog 95 #[u,ue] W λe W'=>e=.returned (.tuple #[])/\Rr N m w w1 V W'/\Mono N m w1 V W W'/\Dn N m U w1 V W' l u:=by
 intro n
 induction n with
 |zero=>intro l u W h;omega
 | succ n ih=>
  intro l u W hn hu hp hl hR;obtain⟨a,cap,rfl,hat⟩:=fs_at hu;replace hat:AtL U N w1 l a:=hat
  obtain⟨ea,ec,rfl⟩:=hE.sl;refine callsIn_of_wp Tryz.func95 rfl trivial ?_ rfl;simp only[Tryz.ntmps95,List.size_toArray,List.length_cons,List.length_nil,Nat.reduceAdd,Nat.reduceSub,Array.replicate_succ,Array.replicate_zero,List.push_toArray,List.append_toArray,List.nil_append,List.cons_append]
  gi_wp2
  gi_loopw [9] (λv9 B=>∃(i:Nat),v9=.int .i64 (i:Int)/\i<=l.length/\Rr N m w w1 V B/\Mono N m w1 V W B/\
    (∀j b off cap,j<i->Value.slice a l.length cap=.slice (some ⟨b,off,none⟩) l.length cap->(el l j).fKind= -1->RpG V B b (off+j*10) (itoN (el l j).fText))/\
    (∀j b off cap x,j<i->Value.slice a l.length cap=.slice (some ⟨b,off,none⟩) l.length cap->(el l j).fKind≠ -1->w1.cell? ⟨b,off+j*10+9,none⟩=some x->Dn N m U w1 V B (el l j).fKids x))
   (λv9 _=>l.length-(intOf v9).toNat)
  case atStart=>exact⟨0,rfl,Nat.zero_le _,hR,Mono.refl _,λj _ _ _ h=>absurd h (Nat.not_lt_zero _),λj _ _ _ _ h=>absurd h (Nat.not_lt_zero _)⟩
  obtain⟨i,rfl,hi,hRB,hMB,hd1,hd2⟩:=hrel
  by_cases hlt:i<l.length
  ·have hd:((i:Int)<(l.length:Int)):=by omega
   obtain⟨b,off,rfl,hT,us,hul,huc,hur⟩:=hat i hlt;obtain⟨uk,hq⟩:=prt_of hT hul huc hur
   have hx:=Vcp (l:=l) (i:=i) hlt
   have hpx:=Vaj.1 (hp _ hx)
   have key:(∃i0 uk,wr.cell? ⟨b,off+i*10,none⟩=some (.int .i64 i0)/\i0≠ -1/\wr.cell? ⟨b,off+i*10+9,none⟩=some uk/\CallsIn Fence.wide 0 Tryz.prog 95 #[uk,.slice ea m ec] wr λe W'=>e=.returned (.tuple #[])/\Rr N m w w1 V W'/\Mono N m w1 V wr W'/\((el l i).fKind= -1->RpG V W' b (off+i*10) (itoN (el l i).fText))/\∀ x,(el l i).fKind≠ -1->w1.cell? ⟨b,off+i*10+9,none⟩=some x->Dn N m U w1 V W' (el l i).fKids x)\/
     (∃k,Ph m w1 b (off+i*10) k/\itoN (el l i).fText=k/\(el l i).fKind= -1/\wr.cell? ⟨b,off+i*10,none⟩=some (.int .i64 (-1))/\wr.cell? ⟨b,off+i*10+1,none⟩=some (.string (itoa k))):=by
    by_cases hk:(el l i).fKind= -1
    ·obtain⟨k,hkm,htx⟩:=hpx.1.1 hk
     have hP:Ph m w1 b (off+i*10) k:=⟨hkm,hq.gp,by rw[<-hk];exact hq.kd,by rw[<-htx];exact hq.tx⟩
     have hit:itoN (el l i).fText=k:=by rw[htx];exact Vbs kv
     rcases hRB.ins b _ k hT hP with hs|hs
     ·exact .inr ⟨k,hP,hit,hk,(hs 0 gj).trans hP.kd,(hs 1 gj).trans hP.tx⟩
     ·have hv:=hE.ok k hkm;obtain⟨i0,h0,h0n⟩:=hv.kd;obtain⟨uk',h9,hc9⟩:=hv.ks;refine .inl ⟨i0,uk',(hs 0 gj).trans h0,h0n,(hs 9 gj).trans h9,((callsIn_wide (n:=0)).2 (hc9 wr hRB.low)).mono ?_⟩;rintro e W' ⟨rfl,hb⟩;obtain⟨q1,q2⟩:=hRB.below (Nat.le_trans hN hRB.sz) hb;exact⟨rfl,q1,q2,λ_=>by rw[hit];exact q2 _ _ _ hT hP hs,λx h=>absurd hk h⟩
    ·have hst:=hRB.stay hT hq.gp hq.kd hk;refine .inl ⟨_,uk,(hst 0 gj).trans hq.kd,hk,(hst 9 gj).trans hq.ks,(ih (el l i).fKids uk wr ?_ hq.rp hpx.2 hpx.1.2 hRB).mono ?_⟩
     ·have hs1:=List.sizeOf_lt_of_mem hx
      have hs2:SizeOf.sizeOf (el l i).fKids<SizeOf.sizeOf (el l i):=by
       cases(el l i);simp only[DInline.mk.sizeOf_spec];omega
      omega
     ·rintro e W' ⟨rfl,q1,q2,q3⟩;refine⟨rfl,q1,q2,λh=>absurd h hk,λx _ hx=>?_⟩;rw[hq.ks]at hx;cases hx;exact q3
   clear ih huc hur;rcases key with⟨i0,uk',c0,hi0,c9,hcall⟩|⟨k,hP,hit,hk,c0,c1⟩
   ·have hst:∀ B,Mono N m w1 V wr B->((el l i).fKind= -1->RpG V B b (off+i*10) (itoN (el l i).fText))->True:=λ_ _ _=>trivial
    clear hst
    gi_wp2
    refine⟨trivial,rfl,hcall.mono ?_⟩;rintro e W' ⟨rfl,q1,q2,q3,q4⟩;clear hcall c0 c9
    gi_wp2
    have hMW:=hMB.trans q2;refine⟨⟨i+1,rfl,hlt,q1,hMW,λj b' off' cap' hj e hkj=>?_,λj b' off' cap' x hj e hkj hxj=>?_⟩,by simp only[intOf];omega⟩
    ·by_cases he:j=i
     ·subst he;cases e;exact q3 hkj
     ·exact q2.rp hp hm hat kv kv e hkj (hd1 j b' off' cap' kv e hkj)
    ·by_cases he:j=i
     ·subst he;cases e;exact q4 x hkj hxj
     ·exact(hd2 j b' off' cap' x kv e hkj hxj).mono q2
   ·have ha:=atoi_raw k (by have:=hP.lt;omega) wr
    gi_wp2
    refine⟨trivial,rfl,((callsIn_wide (n:=0)).2 ha).mono ?_⟩;rintro e W' ⟨rfl,hb⟩;obtain⟨eb,eo,ec',he,heb,hec⟩:=hE.at' k hP.lt;simp only[Value.slice.injEq,true_and]at he;obtain⟨rfl,rfl⟩:=he
    have hkm:((k:Nat):Int)<((m:Nat):Int):=by have:=hP.lt;omega
    obtain⟨q1,q2⟩:=hRB.below (Nat.le_trans hN hRB.sz) hb
    have hV:=hE.ok k hP.lt
    have hbl:W'.heap[eb]? =w.heap[eb]? :=(hb.block eb (by have:=hRB.low.size;have:=hN;have:=hRB.sz;omega)).trans (hRB.low.block eb heb)
    have hcv:∀ j,j<10->W'.cell? ⟨eb,eo+k*21+1+1+j,none⟩=(V k)[j]? :=λj hj=>(Vhj hbl _).trans (by rw[show eo+k*21+1+1+j=eo+k*21+(2+j) by omega];exact hec j hj)
    obtain⟨v0,v1,v2,v3,v4,v5,v6,v7,v8,v9,hvk⟩:=list10 hV.len;rw[hvk]at hcv
    have x0:W'.cell? ⟨eb,eo+k*21+1+1,none⟩=some v0:=hcv 0 gj
    have x1:W'.cell? ⟨eb,eo+k*21+1+1+1,none⟩=some v1:=hcv 1 gj
    have x2:W'.cell? ⟨eb,eo+k*21+1+1+2,none⟩=some v2:=hcv 2 gj
    have x3:W'.cell? ⟨eb,eo+k*21+1+1+3,none⟩=some v3:=hcv 3 gj
    have x4:W'.cell? ⟨eb,eo+k*21+1+1+4,none⟩=some v4:=hcv 4 gj
    have x5:W'.cell? ⟨eb,eo+k*21+1+1+5,none⟩=some v5:=hcv 5 gj
    have x6:W'.cell? ⟨eb,eo+k*21+1+1+6,none⟩=some v6:=hcv 6 gj
    have x7:W'.cell? ⟨eb,eo+k*21+1+1+7,none⟩=some v7:=hcv 7 gj
    have x8:W'.cell? ⟨eb,eo+k*21+1+1+8,none⟩=some v8:=hcv 8 gj
    have x9:W'.cell? ⟨eb,eo+k*21+1+1+9,none⟩=some v9:=hcv 9 gj;clear hcv hec hbl hb ha;obtain⟨W2,hst,q3,q4,q5⟩:=q1.put hm hT hP hV
    have hs2:=hst Tryz.prog;rw[hvk]at hs2;obtain⟨X0,s0,hs2⟩:=Vcn (j:=0) hs2;obtain⟨X1,s1,hs2⟩:=Vcn (j:=1) hs2;obtain⟨X2,s2,hs2⟩:=Vcn (j:=2) hs2;obtain⟨X3,s3,hs2⟩:=Vcn (j:=3) hs2;obtain⟨X4,s4,hs2⟩:=Vcn (j:=4) hs2;obtain⟨X5,s5,hs2⟩:=Vcn (j:=5) hs2;obtain⟨X6,s6,hs2⟩:=Vcn (j:=6) hs2;obtain⟨X7,s7,hs2⟩:=Vcn (j:=7) hs2;obtain⟨X8,s8,hs2⟩:=Vcn (j:=8) hs2;obtain⟨X9,s9,hs2⟩:=Vcn (j:=9) hs2
    have hX:X9=W2:=by simpa[storeCells]using hs2
    subst hX;clear hst hs2 hvk c0 c1;rw[Nat.add_zero]at s0
    gi_wp2
    have hMW:=(hMB.trans q2).trans q4;refine⟨⟨i+1,rfl,hlt,q3,hMW,λj b' off' cap' hj e hkj=>?_,λj b' off' cap' x hj e hkj hxj=>?_⟩,by simp only[intOf];omega⟩
    ·by_cases he:j=i
     ·subst he;cases e;rw[hit];exact q5
     ·exact(q2.trans q4).rp hp hm hat kv kv e hkj (hd1 j b' off' cap' kv e hkj)
    ·by_cases he:j=i
     ·subst he;exact absurd hk hkj
     ·exact(hd2 j b' off' cap' x kv e hkj hxj).mono (q2.trans q4)
  ·have hd:¬ ((i:Int)<(l.length:Int)):=by omega
   clear ih
   gi_wp2
   go_end0
   have hil:i=l.length:=by omega
   subst hil;refine⟨rfl,hRB,hMB,.mk (λa' cap' e j b off hj ha hk=>?_) (λj b off cap' x hj e hk hx=>by cases e;exact hd2 j b off cap x hj rfl hk hx)⟩;cases e;subst ha
   have h1:=hd1 j b off cap hj rfl hk;obtain⟨k,hkm,ht⟩:=(Vaj.1 (hp _ (Vcp (l:=l) (i:=j) hj))).1.1 hk;obtain⟨b2,off2,e2,hT2,us2,hul2,huc2,hur2⟩:=hat j hj;cases e2;obtain⟨uk2,hq2⟩:=prt_of hT2 hul2 huc2 hur2;rw[ht,Vbs kv]at h1 ⊢;exact⟨h1,hT2,hkm,hq2.gp,by rw[<-hk];exact hq2.kd,by rw[<-ht];exact hq2.tx⟩
end
end Go.Proofs.YthbpjmogdonlkaaGreatDoor
namespace Go.Proofs.YthbpjmogdonlkaaGreatDoor
open Go Go.Eng Go.RowKit Go.Shelf
theorem RepL_mk{U:Nat->Nat}{w:World}:∀(l:List AV)(us:List Value),l.length=us.length->(∀(i:Nat)(x:AV)(u:Value),l[i]? =some x->us[i]? =some u->Rep U w x u)->RepL U w l us
 |[],[],_,_=>rfl
 |x::l,u::us,h,hr=>⟨u,us,rfl,hr 0 x u rfl rfl,RepL_mk l us (by simpa using h) (λi y v h1 h2=>hr (i+1) y v (by simpa using h1) (by simpa using h2))⟩
 |[],u::us,h,_=>by simp at h
 |x::l,[],h,_=>by simp at h
def Flat(x:AV):Prop:=∀ U w U' w' u,Rep U w x u->Rep U' w' x u
theorem Vjh(v:Value):Flat (.val v):=λ_ _ _ _ _ h=>h
theorem flatL{U:Nat->Nat}{w:World}(U':Nat->Nat)(w':World):∀ {l:List AV} {us:List Value},(∀x∈l,Flat x)->RepL U w l us->RepL U' w' l us
 |[],_,_,h=>h
 |x::l,us,hl,h=>by
  obtain⟨u,us',e,h1,h2⟩:=h;exact⟨u,us',e,hl x ku _ _ _ _ _ h1,flatL U' w' (λy hy=>hl y (by simp[hy])) h2⟩
theorem flat_agg{l:List AV}(h:∀ x∈l,Flat x):Flat (.agg l):=by
 intro U w U' w' u hr;simp only[Rep]at hr ⊢;obtain⟨us,e,h1,h2⟩:=hr;exact⟨us,e,flatL U' w' h h1,h2⟩
theorem flat_pair(x:DPair):Flat (Vbh x):=flat_agg (λy hy=>by
 simp only[Zb,List.not_mem_nil,or_false]at hy
 rcases hy with rfl|rfl <;>exact Vjh _)
theorem flat_cit(x:DCited):Flat (Vbj x):=flat_agg (λy hy=>by
 simp only[Zb,List.not_mem_nil,or_false]at hy
 rcases hy with rfl|rfl|rfl|rfl <;>exact Vjh _)
section
variable {N m:Nat} {w w1:World} {V:Nat->List Value} {ue:Value} {U:Nat->Nat} {VI:Nat->DInline}
theorem Rr.fs_other{W:World}(h:Rr N m w w1 V W){t:Nat}(ht:t≠42){l:List AV}(hl:∀ x∈l,Flat x){u:Value}(hu:Rep U w1 (.fs N t l) u):Rep U W (.sl l) u:=by
 simp only[Rep]at hu ⊢;obtain⟨a,cap,es,sz,e1,h2,h3,h4,h5,h6,h7,h8⟩:=hu;refine⟨a,cap,es,sz,e1,flatL _ _ hl h2,h3,h4,h5,h6,?_⟩
 by_cases hv:Va1 es=[]
 ·exact .inl hv
 ·rcases h7 with h7|⟨b,off,ha,hle,hc⟩
  ·exact absurd h7 hv
  ·obtain⟨q1,⟨arr,mm,q2⟩,q3⟩:=h8 hv _ ha
   have hlt:b<w1.heap.size:=(Zd.1 q2).1
   have hnT:¬ Th N w1 b:=by
    rintro⟨_,arr',q4⟩;simp only at q2;rw[q2]at q4;cases q4;exact ht rfl
   have hb:=h.keep b hlt hnT;exact .inr ⟨b,off,ha,hle,λj x hx=>⟨(Vhj hb _).trans (hc j x hx).1,(hc j x hx).2⟩⟩
theorem Vje{α:Type}{f:α->AV}(h:∀ x,Flat (f x))(l:List α):∀ x∈l.map f,Flat x:=λx hx=>by
 obtain⟨y,_,rfl⟩:=List.mem_map.1 hx;exact h y
theorem done_rep(hm:m<=2048){W:World}(hR:Rr N m w w1 V W)(hV:∀ k,k<m->(V k).length=10/\Rep U W (Va3 (VI k)) (.agg (V k).toArray)):
  ∀(n:Nat)(l:List DInline)(u:Value),SizeOf.sizeOf l<n->Rep U w1 (.fs N 42 (l.map (gI N))) u->(∀x∈l,AllI (PhP m) x)->Dn N m U w1 V W l u->Rep U W (.sl ((l.map (rsT VI)).map Va3)) u:=by
 intro n
 induction n with
 |zero=>intro l u h;omega
 | succ n ih=>
  intro l u hn hu hp hD
  have hu0:=hu;obtain⟨a,cap,e0,hat⟩:=fs_at hu;simp only[Rep]at hu;obtain⟨a',cap',es,sz,e1,h2,h3,h4,h5,h6,h7,h8⟩:=hu;rw[Zh]at e1
  have ee:=e0.symm.trans e1;simp only[Value.slice.injEq,true_and]at ee;obtain⟨rfl,rfl⟩:=ee
  have hlen:=h2.length;rw[Zh]at hlen
  have hex:∀ i,i<l.length->∃ us:List Value,us.length=10/\(∀b off,a=some ⟨b,off,none⟩->∀ j,j<10->W.cell? ⟨b,off+i*10+j,none⟩=us[j]?)/\Rep U W (Va3 (rsT VI (el l i))) (.agg us.toArray):=by
   intro i hi;obtain⟨b,off,rfl,hT,us,hul,huc,hur⟩:=hat i hi;obtain⟨uk,hq⟩:=prt_of hT hul huc hur
   have hx:=Vcp (l:=l) (i:=i) hi
   have hpx:=Vaj.1 (hp _ hx);cases hD with
   | mk g1 g2=>
    by_cases hk:(el l i).fKind= -1
    ·obtain⟨k,hkm,ht⟩:=hpx.1.1 hk
     have hit:itoN (el l i).fText=k:=by rw[ht];exact Vbs kv
     have hr:=(g1 _ _ e0 i b off hi rfl hk).1;rw[hit]at hr;refine⟨V k,(hV k hkm).1,λb' off' e=>?_,?_⟩
     ·cases e;exact hr
     ·rw[rsT_p VI hk,hit];exact(hV k hkm).2
    ·have hst:=hR.stay hT hq.gp hq.kd hk;refine⟨us,hul,λb' off' e=>?_,?_⟩
     ·cases e;exact λj hj=>(hst j hj).trans (huc j hj)
     ·have hkr:=ih (el l i).fKids uk (by
       have hs1:=List.sizeOf_lt_of_mem hx
       have hs2:SizeOf.sizeOf (el l i).fKids<SizeOf.sizeOf (el l i):=by
        cases(el l i);simp only[DInline.mk.sizeOf_spec];omega
       omega) hq.rp hpx.2 (g2 i b off _ uk hi e0 hk hq.ks)
      rw[rsT_n VI hk,Vc3]
      have hur0:=hur;rw[gI_eq]at hur;unfold agI at hur;simp only[Rep]at hur ⊢;obtain⟨vs,ev,r1,r2⟩:=hur;refine⟨vs,ev,?_,r2⟩;obtain⟨x0,l0,f0,r0,x1,l1,f1,r1,x2,l2,f2,r2,x3,l3,f3,r3,x4,l4,f4,r4,x5,l5,f5,r5,x6,l6,f6,r6,x7,l7,f7,r7,x8,l8,f8,r8,x9,l9,f9,r9,f10⟩:=r1
      have e9:x9=uk:=by
       have c9:=(huc 9 gj).symm.trans hq.ks
       have:us=vs.toList:=by
        simp only[Value.agg.injEq]at ev;rw[<-ev]
       rw[this,f0,f1,f2,f3,f4,f5,f6,f7,f8,f9]at c9;simpa using c9
      subst e9;exact⟨x0,l0,f0,r0,x1,l1,f1,r1,x2,l2,f2,r2,x3,l3,f3,r3,x4,l4,f4,r4,x5,l5,f5,hR.fs_other gj (Vje (λ_=>Vjh _) _) r5,x6,l6,f6,hR.fs_other gj (Vje flat_pair _) r6,x7,l7,f7,hR.fs_other gj (Vje (λ_=>Vjh _) _) r7,x8,l8,f8,hR.fs_other gj (Vje flat_cit _) r8,x9,l9,f9,hkr,f10⟩
  obtain⟨f,hf⟩:∃ f:Nat->List Value,∀i,i<l.length->(f i).length=10/\(∀b off,a=some ⟨b,off,none⟩->∀ j,j<10->W.cell? ⟨b,off+i*10+j,none⟩=(f i)[j]?)/\Rep U W (Va3 (rsT VI (el l i))) (.agg (f i).toArray):=
   ⟨λi=>if h:i<l.length then Classical.choose (hex i h)else[],λi hi=>by simp only[dif_pos hi];exact Classical.choose_spec (hex i hi)⟩
  have hes:∀ e∈(Zq l.length).map (λi=>Value.agg (f i).toArray),e.cells.size=10:=by
   intro e he;obtain⟨i,hi,rfl⟩:=List.mem_map.1 he;exact(hf i (List.mem_range.1 hi)).1
  have hvl:(Va1 ((Zq l.length).map (λi=>Value.agg (f i).toArray))).length=l.length*10:=by
   rw[Vac _ hes];simp
  have hsz0:∀ e∈es,e.cells.size=10:=(uniGL N l).sizes h2
  have hvl0:(Va1 es).length=l.length*10:=by rw[Vac es hsz0,hlen]
  simp only[Rep,Zh];refine⟨a,cap,(Zq l.length).map (λi=>.agg (f i).toArray),10,e0,?_,hes,?_,?_,?_,?_⟩
  ·refine RepL_mk _ _ ku (λi x v hx hv=>?_);simp only[Zk,Option.map_eq_some_iff]at hx hv;obtain⟨y,⟨z',hz,rfl⟩,rfl⟩:=hx;obtain⟨q,hq,rfl⟩:=hv
   have hi:i<l.length:=(List.getElem?_eq_some_iff.1 hz).1;rw[List.getElem?_range hi]at hq;cases hq
   have:=(hf i hi).2.2;rwa[show el l i=z' by simp[el,hz]]at this
  ·intro ha
   have:es=[]:=h4 ha;rw[this]at hlen
   have:l.length=0:=by simpa using hlen.symm
   rw[this];rfl
  ·simpa using h5
  ·intro hne;exact h6 (by intro e;apply hne;simpa using e)
  ·rcases Nat.eq_zero_or_pos l.length with hz|hpos
   ·exact .inl (by rw[hz];rfl)
   ·rcases h7 with h7|⟨b,off,ha,hle,hc⟩
    ·rw[h7]at hvl0;simp at hvl0;omega
    ·refine .inr ⟨b,off,ha,by rw[hvl];omega,λq x hx=>?_⟩
     have hq:q<l.length*10:=by rw[<-hvl];exact(List.getElem?_eq_some_iff.1 hx).1
     have hi:q / 10<l.length:=by omega
     obtain⟨g1,g2,g3⟩:=hf (q / 10) hi
     have hlt:q%10<(f (q / 10)).length:=by rw[g1];omega
     have hge:=Vd4 _ (q / 10) (.agg (f (q / 10)).toArray) hes (by simp[hi]) (q%10) ((f (q / 10))[q%10]'hlt) (show(Value.agg (f (q / 10)).toArray).cells.toList[q%10]? =_ from Zc hlt);rw[show q / 10*10+q%10=q by omega,hx]at hge
     have hge:x=(f (q / 10))[q%10]'hlt:=Option.some.inj hge
     have hcell:=g2 b off ha (q%10) kv;rw[show off+q / 10*10+q%10=off+q by omega,Zc hlt, <-hge]at hcell;refine⟨hcell,?_⟩;rw[Vc3]at g3;simp only[Rep]at g3;obtain⟨vs,ev,r1,r2⟩:=g3;refine r2 x ?_;simp only[Value.agg.injEq]at ev;rw[<-ev,hge];exact List.getElem_mem hlt
end
end Go.Proofs.YthbpjmogdonlkaaGreatDoor
namespace Go.Proofs.YthbpjmogdonlkaaGreatDoor
open Go Go.Eng
def siB(l:List Int)(x:Int):List (Nat×ABox):=[(1000,.cells 36 [jL (l.map vI)]),(1001,.cells 3 [jI x])]
theorem sic_to(l:List Int)(x:Int)(i:Int)(h0:0<=i)(h1:i<l.length):Va2 Tryz.prog 272 [jI i,.ptr 1000 0,.ptr 1001 0] (siB l x) [] (jB (decide (el l i.toNat>=x))) (siB l x) []:=by
 have he:=elI_vI l i h0 h1;refine bGs Tryz.func272 ?_;refine gO (tn 1 z) ?_;refine DR3 (tn 2 (ke he (tn 4 z))) kx kx kx ?_;exact eNs
def srcL(l:List Int)(x:Int):Nat->Int->Int->Int
 |0,i,_=>i
 |n+1,i,j=>cond (decide (i<j)) (cond (decide (el l ((i+j) / 2).toNat>=x)) (srcL l x n i ((i+j) / 2)) (srcL l x n ((i+j) / 2+1) j)) i
def srI(l:List Int)(x:Int):Int:=srcL l x (l.length+1) 0 l.length
theorem srcL_bd(l:List Int)(x:Int):∀(n:Nat)(i j:Int),0<=i->i<=j->j<=l.length->(j<l.length->el l j.toNat>=x)->(j-i).toNat<n->0<=srcL l x n i j/\srcL l x n i j<=l.length/\(srcL l x n i j<l.length->el l (srcL l x n i j).toNat>=x)
 |0,i,j,_,_,_,_,h=>by omega
 | n+1,i,j,h0,h1,h2,h3,h4=>by
  rw[srcL];refine Va5 (λr:Int=>0<=r/\r<=l.length/\(r<l.length->el l r.toNat>=x)) (λq=>?_) (λq=>?_)
  ·have q:=of_decide_eq_true q;refine Va5 (λr:Int=>0<=r/\r<=l.length/\(r<l.length->el l r.toNat>=x)) (λq2=>?_) (λq2=>?_)
   ·exact srcL_bd l x n _ _ h0 kv kv (λ_=>of_decide_eq_true q2) kv
   ·exact srcL_bd l x n _ _ kv kv h2 h3 kv
  ·have q:=of_decide_eq_false q
   have e:i=j:=by omega
   subst e;exact⟨h0,h2,h3⟩
theorem srI_bd(l:List Int)(x:Int):0<=srI l x/\srI l x<=l.length/\(srI l x<l.length->el l (srI l x).toNat>=x):=srcL_bd l x _ _ _ kv kv kv (λh=>by omega) kv
def hfI(i j:Int):Int:=IntKind.i64.wrap ((IntKind.u64.wrap (i+j)).fdiv (2 ^ (min (1:Int).toNat IntKind.u64.bits)))
theorem hfI_eq(i j:Int)(h0:0<=i+j)(h1:i+j<=4294967296):hfI i j=(i+j) / 2:=by
 have w2:IntKind.u64.wrap (i+j)=i+j:=by
  unfold IntKind.wrap;simp only[IntKind.signed,IntKind.bits]
  have:(2:Int) ^ 64=18446744073709551616:=by decide
  simp only[this];simp;omega
 have e3:(i+j).fdiv (2 ^ (min (1:Int).toNat IntKind.u64.bits))=(i+j) / 2:=by
  rw[Int.fdiv_eq_ediv_of_nonneg _ gj];rfl
 unfold hfI;rw[w2,e3];exact wrE _ _ kv
def scS(l:List Int)(x i j:Int):St:=sx 26 [(1,.fn 272 [] [.ptr 1000 0,.ptr 1001 0]),(5,jI i),(6,jI j)] (siB l x) []
theorem sch_to(l:List Int)(x:Int)(hl:l.length<=1073741824):Va2 Tryz.prog 271 [jI ((l.length:Nat):Int),.fn 272 [] [.ptr 1000 0,.ptr 1001 0]] (siB l x) [] (jI (srI l x)) (siB l x) []:=by
 refine bGs Tryz.func271 ?_;refine gO (tn 4 z) ?_;refine LP (n:=l.length+1) (λN M S=>∃ i j:Int,0<=i/\i<=j/\j<=l.length/\srcL l x N i j=srI l x/\(j-i).toNat<N/\M=()/\S=scS l x i j) kx ⟨0,l.length,by omega,by omega,by omega,rfl,by omega,rfl,rfl⟩ (WK kx) ?_;rintro n0 M S ⟨i,j,hi,hij,hj,hM,hF,rfl,rfl⟩;obtain⟨n0,rfl⟩:∃ k,n0=k+1:=⟨n0-1,by omega⟩
 rw[srcL]at hM;cases d1:decide (i<j)with
 |false=>
  have hM:i=srI l x:=by rw[d1]at hM;exact hM
  refine gO (tn 3 (kb d1 z)) ?_;refine OUT (tn 2 z) kx ?_;rw[<-hM];exact eNs
 | true=>
  rw[d1]at hM;simp only[cond_true]at hM
  have d1':=of_decide_eq_true d1
  have k:=sic_to l x ((i+j) / 2) kv kv
  have w1:=wrE (i+j) (i+j) kv
  have eE:=hfI_eq i j kv kv;rw[<-eE]at k hM
  have hh1:i<=hfI i j/\hfI i j<j:=by omega
  cases d2:decide (el l (hfI i j).toNat>=x)with
  |true=>
   rw[d2]at k hM;simp only[cond_true]at hM;refine gO (tn 3 (kb d1 (tn 2 (kn w1 (tn 1 (kp (show 0<=(1:Int) by decide) (tn 4 (kg k trivial (tn 1 (kb (b:= !true) (d:=false) rfl (tn 2 z))))))))))) ?_;exact AG (m:=n0) ⟨i,hfI i j,hi,by omega,by omega,hM,by omega,rfl,rfl⟩ (WK kx) kx (Zf _)
  |false=>
   rw[d2]at k hM;simp only[cond_false]at hM
   have w4:=wrE (hfI i j+1) (hfI i j+1) kv;refine gO (tn 3 (kb d1 (tn 2 (kn w1 (tn 1 (kp (show 0<=(1:Int) by decide) (tn 4 (kg k trivial (tn 1 (kb (b:= !false) (d:=true) rfl (tn 1 (kn w4 (tn 1 z))))))))))))) ?_;exact AG (m:=n0) ⟨hfI i j+1,j,by omega,by omega,by omega,hM,by omega,rfl,rfl⟩ (WK kx) kx (Zf _)
theorem sri_to(l:List Int)(x:Int)(hl:l.length<=1073741824):Va2 Tryz.prog 230 [jL (l.map vI),jI x] [] [] (jI (srI l x)) [] []:=by
 have k:Va2 Tryz.prog 271 [jI (((l.map vI).length:Nat):Int),.fn 272 [] [.ptr 2 0,.ptr 3 0]] [(3,.cells 3 [jI x]),(2,.cells 36 [jL (l.map vI)])] [] (jI (srI l x)) [(2,.cells 36 [jL (l.map vI)]),(3,.cells 3 [jI x])] []:=by
  rw[Zh];exact Vgu (Vcq kx (Vaa (Vaf (2,0) (1000,0) rfl) (Vaa (Vaf (3,0) (1001,0) rfl) (sch_to l x hl))))
 refine bG Tryz.func230 ?_;refine gO (tn 6 (kg k trivial (tn 1 z))) ?_;exact eN
def latI(l:List Int)(x:Int):Int:=cond (decide (srI l x<(((l.map vI).length:Nat):Int))) (el l (srI l x).toNat) (-1)
theorem latI_to(l:List Int)(x:Int)(hl:l.length<=1073741824):Va2 Tryz.prog 185 [jL (l.map vI),jI x] [] [] (jI (latI l x)) [] []:=by
 have k:=sri_to l x hl;obtain⟨b0,b1,b2⟩:=srI_bd l x;unfold latI;refine bG Tryz.func185 ?_;cases d1:decide (srI l x<(((l.map vI).length:Nat):Int))with
 |true=>
  have d1':=of_decide_eq_true d1;rw[Zh]at d1'
  have he:=elI_vI l (srI l x) b0 d1';refine gO (tn 3 (kc k (tn 5 (kb d1 (tn 2 (ke he (tn 2 z))))))) ?_;exact eN
 |false=>
  refine gO (tn 3 (kc k (tn 5 (kb d1 (tn 1 z))))) ?_;exact eN
theorem latI_bd(l:List Int)(x:Int):latI l x= -1\/(x<=latI l x/\latI l x∈l):=by
 obtain⟨b0,b1,b2⟩:=srI_bd l x;unfold latI;refine Va5 (λr:Int=>r= -1\/(x<=r/\r∈l)) (λq=>.inr ?_) (λ_=>.inl rfl)
 have q:=of_decide_eq_true q;rw[Zh]at q;refine⟨b2 q,?_⟩
 have hlt:(srI l x).toNat<l.length:=by omega
 have:el l (srI l x).toNat=l[(srI l x).toNat]:=by simp[el,hlt]
 rw[this];exact List.getElem_mem hlt
def txH(t:ByteArray):DInline:=DInline.mk 1 t ⟨#[]⟩ ⟨#[]⟩ ⟨⟨#[]⟩,[],[]⟩ [] [] []
def zI:DInline:=DInline.mk 0 ⟨#[]⟩ ⟨#[]⟩ ⟨#[]⟩ ⟨⟨#[]⟩,[],[]⟩ [] [] []
def rfN1:ByteArray:=⟨#[38,97,109,112,59]⟩
def rfN2:ByteArray:=⟨#[38,108,116,59]⟩
def rfN3:ByteArray:=⟨#[38,103,116,59]⟩
def rfN4:ByteArray:=⟨#[38,113,117,111,116,59]⟩
def rfN5:ByteArray:=⟨#[38,35]⟩
def rfL:List AV:=[vS rfN1,vS ⟨#[38]⟩,vS rfN2,vS ⟨#[60]⟩,vS rfN3,vS ⟨#[62]⟩,vS rfN4,vS ⟨#[34]⟩]
def refC(r:ByteArray)(k:Int):Bool:=cond (cond (decide (k<((Za r:Nat):Int))) (decide (k<9)) false) (digC (IntKind.i64.wrap (BYi r k))) false
def rfcB(r:ByteArray)(k:Int):Bool:=cond (cond (k==2) true (decide (k>=((Za r:Nat):Int)))) true (BYi r k !=59)
def refN(n:Int):Bool:=cond (cond (cond (decide (n<32)) true (n==127)) true (decide (n>1114111))) true (cond (decide (n>=55296)) (decide (n<=57343)) false)
def refT(r:ByteArray)(i n k:Int):DInline×Int:=cond (rfcB r k) (zI,0) (cond (refN n) (zI,0) (txH (appS ⟨#[]⟩ n),i+k+1))
def refL(r:ByteArray)(i:Int):Nat->Int->Int->DInline×Int
 |0,_,_=>default
 |m+1,n,k=>cond (refC r k) (refL r i m (10*n+IntKind.i64.wrap (BYi r k-48)) (k+1)) (refT r i n k)
def refR(s:ByteArray)(i:Int):ByteArray:=ByteArray.extract s (Int.toNat i) (Za s)
def refP(s:ByteArray)(i:Int):DInline×Int:=cond (hpxB (refR s i) rfN1) (txH ⟨#[38]⟩,i+5) (cond (hpxB (refR s i) rfN2) (txH ⟨#[60]⟩,i+4) (cond (hpxB (refR s i) rfN3) (txH ⟨#[62]⟩,i+4) (cond (hpxB (refR s i) rfN4) (txH ⟨#[34]⟩,i+6) (cond (!hpxB (refR s i) rfN5) (zI,0) (refL (refR s i) i 8 0 2)))))
def rfS(s:ByteArray)(i k:Int):St:=sx 105 [(0,jS s),(1,jI i),(4,.ptr 4 0),(5,jI 0),(6,jS (refR s i)),(18,.av (.agg rfL)),(19,jI k)] [(4,.cells 42 [.av (vI 0),.av (vS ⟨#[]⟩),.av (vS ⟨#[]⟩),.av (vS ⟨#[]⟩),.av (vS ⟨#[]⟩),.nil,.nil,.nil,.nil,.nil])] []
def rfT(s:ByteArray)(i n k:Int):St:=sx 105 [(0,jS s),(1,jI i),(4,.ptr 4 0),(6,jS (refR s i)),(9,jI n),(10,jI k)] [(4,.cells 42 [.av (vI 0),.av (vS ⟨#[]⟩),.av (vS ⟨#[]⟩),.av (vS ⟨#[]⟩),.av (vS ⟨#[]⟩),.nil,.nil,.nil,.nil,.nil])] []
theorem refP_to(s:ByteArray)(i:Int)(hs:s.size<=1073741824)(h0:0<=i)(h1:i<s.size):Va2 Tryz.prog 135 [jS s,jI i] [] [] (.av (.tup [Vap (refP s i).1,vI (refP s i).2])) [] []:=by
 have hsl:0<=i/\i<=((Za s:Nat):Int)/\((Za s:Nat):Int)<=((Za s:Nat):Int):=⟨h0,by omega,Zp _⟩
 have hrz:(refR s i).size<=s.size:=by unfold refR;simp
 have a0:0<=(0:Int)/\(0:Int)<(4:Nat)/\(0:Int).toNat*2+2<=rfL.length/\0<2:=by decide
 have a1:0<=(1:Int)/\(1:Int)<(4:Nat)/\(1:Int).toNat*2+2<=rfL.length/\0<2:=by decide
 have a2:0<=(2:Int)/\(2:Int)<(4:Nat)/\(2:Int).toNat*2+2<=rfL.length/\0<2:=by decide
 have a3:0<=(3:Int)/\(3:Int)<(4:Nat)/\(3:Int).toNat*2+2<=rfL.length/\0<2:=by decide
 have c0:0<=(0:Int)/\(0:Int)<((2:Nat):Int):=by decide
 have c1:0<=(1:Int)/\(1:Int)<((2:Nat):Int):=by decide
 have w0:=wrE ((0:Int)+1) 1 kv
 have w1:=wrE ((1:Int)+1) 2 kv
 have w2:=wrE ((2:Int)+1) 3 kv
 have w3:=wrE ((3:Int)+1) 4 kv
 have z1:Za rfN1=5:=rfl
 have e1:=wrE (i+((Za rfN1:Nat):Int)) (i+5) (by rw[z1];omega)
 have z2:Za rfN2=4:=rfl
 have e2:=wrE (i+((Za rfN2:Nat):Int)) (i+4) (by rw[z2];omega)
 have z3:Za rfN3=4:=rfl
 have e3:=wrE (i+((Za rfN3:Nat):Int)) (i+4) (by rw[z3];omega)
 have z4:Za rfN4=6:=rfl
 have e4:=wrE (i+((Za rfN4:Nat):Int)) (i+6) (by rw[z4];omega)
 have k1:=Vcb (refR s i) rfN1
 have k2:=Vcb (refR s i) rfN2
 have k3:=Vcb (refR s i) rfN3
 have k4:=Vcb (refR s i) rfN4
 have k5:=Vcb (refR s i) rfN5;refine BEG (λr:DInline×Int=>.av (.tup [Vap r.1,vI r.2])) (refP s i) Tryz.func135 kx ?_;refine UF (refP.eq_1 ..) ?_;refine gO (tn 4 (kp hsl (tn 7 z))) ?_;refine UN (rfS s i 0) 5 kx (WK kx) ?_;refine gO (tn 1 (kb tt (kp a0 (tn 3 (kp c0 (tn 1 (kc k1 z))))))) ?_;refine CS (λq1=>?_) (λq1=>?_)
 ·refine gO (kb q1 z) ?_;refine DR3 (kp c1 (tn 4 (kp c0 (kp c0 (ko (nO e1) (tn 4 (kp e1 (kp e1 (tn 2 z))))))))) kx kx kx ?_;refine UO z kx ?_;exact EN kx
 ·refine gO (kb q1 (kn w0 (tn 1 z))) ?_;refine UA (rfS s i 1) kx (WK kx) ?_;refine gO (tn 1 (kb tt (kp a1 (tn 3 (kp c0 (tn 1 (kc k2 z))))))) ?_;refine CS (λq2=>?_) (λq2=>?_)
  ·refine gO (kb q2 z) ?_;refine DR3 (kp c1 (tn 4 (kp c0 (kp c0 (ko (nO e2) (tn 4 (kp e2 (kp e2 (tn 2 z))))))))) kx kx kx ?_;refine UO z kx ?_;exact EN kx
  ·refine gO (kb q2 (kn w1 (tn 1 z))) ?_;refine UA (rfS s i 2) kx (WK kx) ?_;refine gO (tn 1 (kb tt (kp a2 (tn 3 (kp c0 (tn 1 (kc k3 z))))))) ?_;refine CS (λq3=>?_) (λq3=>?_)
   ·refine gO (kb q3 z) ?_;refine DR3 (kp c1 (tn 4 (kp c0 (kp c0 (ko (nO e3) (tn 4 (kp e3 (kp e3 (tn 2 z))))))))) kx kx kx ?_;refine UO z kx ?_;exact EN kx
   ·refine gO (kb q3 (kn w2 (tn 1 z))) ?_;refine UA (rfS s i 3) kx (WK kx) ?_;refine gO (tn 1 (kb tt (kp a3 (tn 3 (kp c0 (tn 1 (kc k4 z))))))) ?_;refine CS (λq4=>?_) (λq4=>?_)
    ·refine gO (kb q4 z) ?_;refine DR3 (kp c1 (tn 4 (kp c0 (kp c0 (ko (nO e4) (tn 4 (kp e4 (kp e4 (tn 2 z))))))))) kx kx kx ?_;refine UO z kx ?_;exact EN kx
    ·refine gO (kb q4 (kn w3 (tn 1 z))) ?_;refine UA (rfS s i 4) kx (WK kx) ?_;refine gO (tn 1 (kb ff z)) ?_;refine UO (tn 1 (kc k5 (tn 1 z))) kx ?_;refine CS (λq5=>?_) (λq5=>?_)
     ·refine gO (kb q5 (tn 3 z)) ?_;exact EN kx
     ·refine gO (kb q5 (tn 2 z)) ?_;refine LP (n:=8) (λN M S=>∃ n k:Int,(2<=k/\k<=9)/\(0<=n/\n<((10 ^ (k.toNat-2):Nat):Int))/\(9-k.toNat<N)/\M=refL (refR s i) i N n k/\S=rfT s i n k) kx ⟨0,2,by omega,by decide,by decide,rfl,rfl⟩ (WK kx) ?_;rintro n0 M S ⟨n,k,hk,hn,hF0,rfl,rfl⟩;obtain⟨n0,rfl⟩:∃ k,n0=k+1:=⟨n0-1,by omega⟩
      refine UF (refL.eq_2 ..) ?_
      have kd:=Vnx (IntKind.i64.wrap (BYi (refR s i) k));refine gO (tn 5 (kj (decide (k<((Za (refR s i):Nat):Int))) (tn 2 z) z (tn 1 (kj (cond (decide (k<((Za (refR s i):Nat):Int))) (decide (k<9)) false) (tn 2 (hp (λh=>ib (refR s i) k (by have j:=Va9 h.2;have j1:=of_decide_eq_true j.1;omega)) (tn 1 (kc kd z)))) z z)))) ?_;refine CS (λq=>?_) (λq=>?_)
      ·obtain⟨g1,g2⟩:=Va9 q;obtain⟨g3,g4⟩:=Va9 g1
       have g5:=of_decide_eq_true g3
       have g6:=of_decide_eq_true g4
       have hbl:=Vgc (refR s i) k.toNat
       have hwb:IntKind.i64.wrap (BYi (refR s i) k)=BYi (refR s i) k:=wrE _ _ (by unfold BYi;omega);rw[hwb]at g2;obtain⟨g7,g8⟩:=Va9 g2
       have g9:=of_decide_eq_true g7
       have g10:=of_decide_eq_true g8
       have hi:=ib (refR s i) k ⟨by omega,g5⟩
       have hp10:(10:Nat) ^ (k.toNat-2)<=1000000:=Nat.pow_le_pow_right gj (show k.toNat-2<=6 by omega)
       have w8:IntKind.u8.wrap (BYi (refR s i) k-48)=BYi (refR s i) k-48:=by
        simp only[IntKind.wrap,IntKind.bits,IntKind.signed];simp;omega
       have w9:IntKind.i64.wrap (BYi (refR s i) k-48)=BYi (refR s i) k-48:=wrE _ _ kv
       have wm:=wrE (10*n) (10*n) kv
       have wa:=wrE (10*n+IntKind.i64.wrap (BYi (refR s i) k-48)) (10*n+IntKind.i64.wrap (BYi (refR s i) k-48)) (by rw[w9];omega)
       have wk:=wrE (k+1) (k+1) kv;refine gO (kb q (tn 1 (kn wm (tn 2 (kp hi (kn w8 (tn 1 (kn wa (tn 2 (kn wk (tn 1 z))))))))))) ?_;refine AG (m:=n0) ⟨_,k+1,by omega,?_,by omega,rfl,rfl⟩ (WK kx) kx (Zf _);rw[w9,show(k+1).toNat-2=(k.toNat-2)+1 by omega,Nat.pow_succ];omega
      ·have hp10:(10:Nat) ^ (k.toNat-2)<=10000000:=Nat.pow_le_pow_right gj (show k.toNat-2<=7 by omega);refine gO (kb q z) ?_;refine OUT (tn 3 (kj (k==2) z (tn 4 z) (tn 1 (kj (cond (k==2) true (decide (k>=((Za (refR s i):Nat):Int)))) z (tn 2 (hp (λh=>ib (refR s i) k (by have j:=Vae h.2;have j1:=of_decide_eq_false j.2;omega)) (tn 1 z))) z)))) kx ?_;refine CS (λq1=>?_) (λq1=>?_)
       ·refine gO (kb q1 (tn 3 z)) ?_;exact EN kx
       ·obtain⟨j1,j2⟩:=Vae q1;obtain⟨j3,j4⟩:=Vae j1
        have j5:=of_decide_eq_false j4;refine gO (kb q1 (tn 3 (kj (decide (n<32)) z (tn 2 z) (tn 1 (kj (cond (decide (n<32)) true (n==127)) z (tn 2 z) (tn 1 (kj (cond (cond (decide (n<32)) true (n==127)) true (decide (n>1114111))) z (tn 3 (kj (decide (n>=55296)) (tn 2 z) z z)) z))))))) ?_;refine CS (λq2=>?_) (λq2=>?_)
        ·refine gO (kb q2 (tn 3 z)) ?_;exact EN kx
        ·have ka:=appS_to ⟨#[]⟩ n gj
         have wk:=wrE (i+k) (i+k) kv
         have wl:=wrE (i+k+1) (i+k+1) kv;refine gO (kb q2 (tn 1 (kc ka (tn 3 (kn wk (kn wl (tn 2 z))))))) ?_;exact EN kx
end Go.Proofs.YthbpjmogdonlkaaGreatDoor
namespace Go.Eng
open Go
def Vbp:List Int->Int->Option Nat
 |[],_=>none
 |k::ks,s=>if s==k then some 0 else(Vbp ks s).map (· +1)
def Vpf(z:AV)(ks:List Int)(vs:List AV)(s:Int):AV:=
 match Vbp ks s with
 |some j=>vs.getD j z
 |none=>z
theorem Vfk{s:Int}:∀ {ks:List Int} {j:Nat},Vbp ks s=some j->ks[j]? =some s
 |[],j,h=>by simp[Vbp]at h
 |k::ks,j,h=>by
  simp only[Vbp]at h
  split at h
  ·rename_i hk;simp at h;subst h;simp at hk;simp[hk]
  ·simp only[Option.map_eq_some_iff]at h;obtain⟨i,h1,rfl⟩:=h;simpa using Vfk h1
theorem Vet(s:Int):∀(es:List MapEntry)(ks:List Int)(i:Nat),es.map (·.key)=ks.map (.int .i64)->
  Instr.findNow (.int .i64) (.int .i64 s) es i=some ((Vbp ks s).bind (λj=>(es[j]?).map (λe=>(i+j,e.val))))
 |[],ks,i,h=>by
  cases ks with
  |nil=>rfl
  |cons k ks=>simp at h
 | e::es,ks,i,h=>by
  cases ks with
  |nil=>simp at h
  | cons k ks=>
   simp only[List.map_cons,List.cons.injEq]at h;obtain⟨h1,h2⟩:=h;simp only[Instr.findNow,h1,Instr.sameNow,Vbp];cases hk:s==k with
   |true=>simp
   |false=>
    simp only[Bool.false_eq_true,if_false,if_true];rw[Vet s es ks (i+1) h2];cases Vbp ks s with
    |none=>rfl
    |some j=>simp[Nat.add_assoc,Nat.add_comm 1 j]
section
variable {P:Program}
theorem Vdf(s:Int):MapKept.IsKey (.int .i64) (.int .i64 s):=by simp[MapKept.IsKey]
theorem Vlr{t k e:TypeId}{sz bt:Nat}{z:Value}(ht:tMap P t=some (k,e))(hk:P.underlying k=some (.int .i64))(hz:Vak P e=some (sz,bt,some z)){w:World}{b:Nat}{ents:Array MapEntry}{clock:Nat}
  (hb:w.heap[b]? =some (.map ents clock)) {ks:List Int} (hks:ents.toList.map (·.key)=ks.map (.int .i64)) (s:Int) {U:Nat->Nat} {vs:List AV} (hvs:RepL U w vs (ents.toList.map (·.val))) {za:AV} (h1:∀ U w,Rep U w za z):
  ∃v,(Instr.lookup t (.map (some b)) (.int .i64 s) false).run P w=.ok v w/\Rep U w (Vpf za ks vs s) v:=by
 have hf:=Vet s ents.toList ks 0 hks
 have hlen:ents.toList.length=ks.length:=by simpa using congrArg Zu hks
 cases hp:Vbp ks s with
 |none=>
  rw[hp]at hf;simp only[Option.bind_none]at hf;refine⟨z,?_,?_⟩
  ·simp[Instr.lookup,Va0 (Vcg ht),MapKept.run_getObj_map hb,MapKept.run_checkKey hk (Vdf s),MapKept.run_findKey hk hf,Vam hz]
  ·unfold Vpf;rw[hp];exact h1 U w
 | some j=>
  have hj:=Vfk hp
  have hjl:j<ks.length:=by
   rcases Zj j ks.length with h|h
   ·exact h
   ·simp[Zg h]at hj
  have hje:j<ents.toList.length:=by omega
  rw[hp]at hf;simp only[Option.bind_some,Zc hje,Zn]at hf;refine⟨(ents.toList[j]'hje).val,?_,?_⟩
  ·simp[Instr.lookup,Va0 (Vcg ht),MapKept.run_getObj_map hb,MapKept.run_checkKey hk (Vdf s),MapKept.run_findKey hk hf]
  ·have hvl:vs.length=ents.toList.length:=by rw[<-hvs.length];simp
   have hjv:j<vs.length:=by omega
   unfold Vpf;rw[hp];simp only[Ze,Zc hjv,Zr];obtain⟨u,e1,e2⟩:=hvs.get j vs[j] (Zc hjv);simp only[Zk,Zc hje,Zn,Zi]at e1;rw[e1];exact e2
theorem Vfa{o:Oper}{S:St}{t k e:TypeId}{sz bt:Nat}{z:Value}{x i:Operand}{ks:List Int}{vs:List AV}{s:Int}(ho:o.op=.lookup t x i false)(hx:S.ev x=.av (.im ks vs))(hi:S.ev i=.av (.val (.int .i64 s)))
  (ht:tMap P t=some (k,e)) (hk:P.underlying k=some (.int .i64)) (hz:Vak P e=some (sz,bt,some z)) {za:AV} (h1:zAV z=some za):Sound P o S ⟨True,.av (Vpf za ks vs s),S⟩:=
 Sound.still λ_ G w a hr=>by
  have h2:=hr.ev x;rw[hx]at h2;simp only[RepS,Rep]at h2;obtain⟨b,ents,clock,h3,h4,h6,h7,h8⟩:=h2
  have h5:=hr.ev i;rw[hi]at h5;simp only[RepS,Rep]at h5;obtain⟨v,e1,e2⟩:=Vlr (P:=P) ht hk hz h6 h7 s h8 (Voa h1);exact⟨v,by simp only[execOp,ho,h3,h5.1,Sem.run_bind,e1];rfl,e2⟩
end
end Go.Eng
namespace Go.Proofs.YthbpjmogdonlkaaGreatDoor
open Go Go.Eng
def tkG(ks:List Int)(ls:List (List Int))(n:Int):List Int:=match Vbp ks n with
 |some j=>ls.getD j []
 |none=>[]
def tkV(ls:List (List Int)):List AV:=ls.map (λl=>.sl (l.map vI))
theorem mgetI_tk(ks:List Int)(ls:List (List Int))(n:Int):Vpf (.sl []) ks (tkV ls) n=.sl ((tkG ks ls n).map vI):=by
 unfold Vpf tkG tkV;cases Vbp ks n with
 |none=>rfl
 |some j=>
  simp only[Ze,Zk];cases ls[j]? <;>rfl
def TkOk(s:ByteArray)(ls:List (List Int)):Prop:=∀ l∈ls,l.length<=s.size/\∀ y∈l,0<=y/\y<s.size
theorem tkG_ok{s:ByteArray}{ls:List (List Int)}(h:TkOk s ls)(ks:List Int)(n:Int):(tkG ks ls n).length<=s.size/\∀ y∈tkG ks ls n,0<=y/\y<s.size:=by
 unfold tkG;cases Vbp ks n with
 |none=>exact⟨Nat.zero_le _,λy hy=>by simp at hy⟩
 |some j=>
  simp only[Ze];cases e:ls[j]? with
  |none=>exact⟨Nat.zero_le _,λy hy=>by simp at hy⟩
  |some l=>exact h l (List.mem_of_getElem? e)
def rdV(s:ByteArray)(ka:List Int)(la:List (List Int))(kd:List Int)(ld:List (List Int)):AV:=.agg [vS s,.im ka (tkV la),.im kd (tkV ld)]
def rdX(s:ByteArray)(ka:List Int)(la:List (List Int))(kd:List Int)(ld:List (List Int)):ABox:=.cells 149 [jS s,.av (.im ka (tkV la)),.av (.im kd (tkV ld))]
def coI(k:Int)(t:ByteArray):DInline:=DInline.mk k t ⟨#[]⟩ ⟨#[]⟩ ⟨⟨#[]⟩,[],[]⟩ [] [] []
def codJ(s:ByteArray)(ka:List Int)(la:List (List Int))(i:Int):Int:=latI (tkG ka la (runE s i-i)) (runE s i)
def codP(s:ByteArray)(ka:List Int)(la:List (List Int))(i:Int):DInline×Int:=cond (decide (codJ s ka la i<0)) (zI,0) (coI 4 (codC (ByteArray.extract s (Int.toNat (runE s i)) (Int.toNat (codJ s ka la i)))),codJ s ka la i+runE s i-i)
def zB4:ABox:=.cells 42 [.av (vI 0),.av (vS ⟨#[]⟩),.av (vS ⟨#[]⟩),.av (vS ⟨#[]⟩),.av (vS ⟨#[]⟩),.nil,.nil,.nil,.nil,.nil]
def coB(s:ByteArray)(ka:List Int)(la:List (List Int))(kd:List Int)(ld:List (List Int))(m:Int):List (Nat×ABox):=[(4,zB4),(2,rdX s ka la kd ld),glM m]
def coS(s:ByteArray)(ka:List Int)(la:List (List Int))(kd:List Int)(ld:List (List Int))(m i e:Int):St:=sx 36 [(1,jI i),(2,.ptr 2 0),(4,.ptr 4 0),(6,jI e)] (coB s ka la kd ld m) []
def coT(s:ByteArray)(ka:List Int)(la:List (List Int))(kd:List Int)(ld:List (List Int))(m i e k:Int):St:=sx 36 [(1,jI i),(2,.ptr 2 0),(4,.ptr 4 0),(6,jI e),(7,jI k)] (coB s ka la kd ld m) []
def slZ:Value:=.slice none 0 0
theorem co2(s:ByteArray)(ka:List Int)(la:List (List Int))(kd:List Int)(ld:List (List Int))(m i e:Int)(hw:IntKind.i64.wrap (e-i)=e-i)(hl:(tkG ka la (e-i)).length<=1073741824):W Tryz.prog (.region 2 (Va7 2 Tryz.f138) false) (λx S1=>x=.normal/\Weak S1 (coT s ka la kd ld m i e (latI (tkG ka la (e-i)) e))) (coS s ka la kd ld m i e):=by
 have hc:=latI_to (tkG ka la (e-i)) e hl;refine Van ?_;rw[show(Va7 2 Tryz.f138).toList=[regO 2 Tryz.f138 0,regO 2 Tryz.f138 1,regO 2 Tryz.f138 2,regO 2 Tryz.f138 3,regO 2 Tryz.f138 4,regO 2 Tryz.f138 5,regO 2 Tryz.f138 6,regO 2 Tryz.f138 7,regO 2 Tryz.f138 8,regO 2 Tryz.f138 9] by kernel_rfl];refine Var (.ptr 2 1) 12 kx kx ?_;refine Var (.ptr 2 1) 13 kx kx ?_;refine Var (.av (.im ka (tkV la))) 14 kx kx ?_;refine Var (jI e) 15 kx kx ?_;refine Var (jI i) 16 kx kx ?_;refine Var (jI (IntKind.i64.wrap (e-i))) 17 kx kx ?_;rw[hw];refine Vc5 (.av (Vpf (.sl []) ka (tkV la) (e-i))) 18 kx (Vfa (P:=Tryz.prog) (t:=144) (k:=3) (e:=36) (sz:=1) (bt:=24) (z:=slZ) (x:=.tmp 14) (i:=.tmp 17) kx kx kx kx kx kx kx) ?_;rw[mgetI_tk];exact Vla (cs:=[True,_,True,True]) [cO hc] 36 [(1,jI i),(2,.ptr 2 0),(4,.ptr 4 0),(6,jI e),(7,jI (latI (tkG ka la (e-i)) e))] (coB s ka la kd ld m) [] ⟨trivial,hc,trivial,trivial,trivial⟩ kx ⟨rfl,WK kx⟩
theorem codJ_bd{s:ByteArray}{ka:List Int}{la:List (List Int)}(i:Int)(h:TkOk s la)(hn:¬ codJ s ka la i<0):runE s i<=codJ s ka la i/\codJ s ka la i<s.size:=by
 have h2:=tkG_ok h ka (runE s i-i);unfold codJ at hn ⊢;rcases latI_bd (tkG ka la (runE s i-i)) (runE s i)with e|⟨e1,e2⟩
 ·rw[e]at hn;omega
 ·exact⟨e1,(h2.2 _ e2).2⟩
theorem codP_to(s:ByteArray)(ka:List Int)(la:List (List Int))(kd:List Int)(ld:List (List Int))(m i:Int)(hs:s.size<=1073741824)(h0:0<=i)(h1:i<s.size)(htk:TkOk s la):
  Va2 Tryz.prog 138 [.av (rdV s ka la kd ld),jI i] [glM m] [] (.av (.tup [Vap (codP s ka la i).1,vI (codP s ka la i).2])) [glM m] []:=by
 have k1:=Vk4 s i hs h0 h1
 have hb:=Veo s i h0
 have hl:=tkG_ok htk ka (runE s i-i)
 have w1:IntKind.i64.wrap (runE s i-i)=runE s i-i:=wrE _ _ kv;obtain⟨J,hJ⟩:∃ J,codJ s ka la i=J:=⟨_,rfl⟩
 have hbd:¬ J<0->runE s i<=J/\J<s.size:=λh=>by rw[<-hJ]at h ⊢;exact codJ_bd i htk h
 unfold codP;rw[hJ];refine bGs Tryz.func138 ?_
 have hreg:W Tryz.prog (.region 2 (Va7 2 Tryz.f138) false) (λx S1=>x=.normal/\Weak S1 (coT s ka la kd ld m i (runE s i) J)) (coS s ka la kd ld m i (runE s i)):=by
  rw[<-hJ];exact co2 s ka la kd ld m i (runE s i) w1 kv
 cases d1:decide (J<0)with
 |true=>
  simp only[cond_true];refine gO (tn 6 (kc k1 (kq 2 (tn 1 z)))) ?_;refine NXW (coT s ka la kd ld m i (runE s i) J) (tn 2 (kb d1 (tn 3 z))) kx ?_ kx ?_
  ·refine Vai (S':=coS s ka la kd ld m i (runE s i)) (WK kx) ?_;exact Val (c':=.region 2 (Va7 2 Tryz.f138) false) kx hreg
  exact eNs
 |false=>
  simp only[cond_false]
  have d1':=of_decide_eq_false d1;obtain⟨b1,b2⟩:=hbd d1'
  have hsl:0<=runE s i/\runE s i<=J/\J<=((Za s:Nat):Int):=⟨by omega,b1,by omega⟩
  have k2:=codC_to (ByteArray.extract s (Int.toNat (runE s i)) (Int.toNat J)) m (by rw[Vag];omega)
  have w2:=wrE (J+runE s i) (J+runE s i) kv
  have w3:=wrE (J+runE s i-i) (J+runE s i-i) kv;refine gO (tn 6 (kc k1 (kq 2 (tn 1 z)))) ?_;refine NXW (coT s ka la kd ld m i (runE s i) J) (tn 2 (kb d1 (tn 4 (kp hsl (kg k2 trivial (tn 3 (kn w2 (tn 1 (kn w3 (tn 2 z)))))))))) kx ?_ kx ?_
  ·refine Vai (S':=coS s ka la kd ld m i (runE s i)) (WK kx) ?_;exact Val (c':=.region 2 (Va7 2 Tryz.f138) false) kx hreg
  exact eNs
def mtcN(s:ByteArray)(i:Int):Int:=runE s (i+1)-i-1
def mtcJ(s:ByteArray)(kd:List Int)(ld:List (List Int))(i:Int):Int:=latI (tkG kd ld (mtcN s i)) (runE s (i+1))
def mtcP(s:ByteArray)(kd:List Int)(ld:List (List Int))(i:Int):DInline×Int:=cond (cond (decide (i+1>=((Za s:Nat):Int))) true (BYi s (i+1) !=96)) (zI,0)
 (cond (decide (mtcJ s kd ld i<0)) (zI,0) (coI 5 (codC (ByteArray.extract s (Int.toNat (runE s (i+1))) (Int.toNat (mtcJ s kd ld i)))),mtcJ s kd ld i+mtcN s i+1))
def mcS(s:ByteArray)(ka:List Int)(la:List (List Int))(kd:List Int)(ld:List (List Int))(m e n:Int):St:=sx 54 [(2,.ptr 2 0),(4,.ptr 4 0),(6,jI e),(7,jI n)] (coB s ka la kd ld m) []
def mcT(s:ByteArray)(ka:List Int)(la:List (List Int))(kd:List Int)(ld:List (List Int))(m e n k:Int):St:=sx 54 [(2,.ptr 2 0),(4,.ptr 4 0),(6,jI e),(7,jI n),(8,jI k)] (coB s ka la kd ld m) []
theorem mc5(s:ByteArray)(ka:List Int)(la:List (List Int))(kd:List Int)(ld:List (List Int))(m e n:Int)(hl:(tkG kd ld n).length<=1073741824):W Tryz.prog (.region 5 (Va7 5 Tryz.f136) false) (λx S1=>x=.normal/\Weak S1 (mcT s ka la kd ld m e n (latI (tkG kd ld n) e))) (mcS s ka la kd ld m e n):=by
 have hc:=latI_to (tkG kd ld n) e hl;refine Van ?_;rw[show(Va7 5 Tryz.f136).toList=[regO 5 Tryz.f136 0,regO 5 Tryz.f136 1,regO 5 Tryz.f136 2,regO 5 Tryz.f136 3,regO 5 Tryz.f136 4,regO 5 Tryz.f136 5,regO 5 Tryz.f136 6,regO 5 Tryz.f136 7] by kernel_rfl];refine Var (.ptr 2 1) 33 kx kx ?_;refine Var (.ptr 2 2) 34 kx kx ?_;refine Var (.av (.im kd (tkV ld))) 35 kx kx ?_;refine Var (jI n) 36 kx kx ?_;refine Vc5 (.av (Vpf (.sl []) kd (tkV ld) n)) 37 kx (Vfa (P:=Tryz.prog) (t:=144) (k:=3) (e:=36) (sz:=1) (bt:=24) (z:=slZ) (x:=.tmp 35) (i:=.tmp 36) kx kx kx kx kx kx kx) ?_;rw[mgetI_tk];exact Vla (cs:=[True,_,True,True]) [cO hc] 54 [(2,.ptr 2 0),(4,.ptr 4 0),(6,jI e),(7,jI n),(8,jI (latI (tkG kd ld n) e))] (coB s ka la kd ld m) [] ⟨trivial,hc,trivial,trivial,trivial⟩ kx ⟨rfl,WK kx⟩
theorem mtcJ_bd{s:ByteArray}{kd:List Int}{ld:List (List Int)}(i:Int)(h:TkOk s ld)(hn:¬ mtcJ s kd ld i<0):runE s (i+1)<=mtcJ s kd ld i/\mtcJ s kd ld i<s.size:=by
 have h2:=tkG_ok h kd (mtcN s i);unfold mtcJ at hn ⊢;rcases latI_bd (tkG kd ld (mtcN s i)) (runE s (i+1))with e|⟨e1,e2⟩
 ·rw[e]at hn;omega
 ·exact⟨e1,(h2.2 _ e2).2⟩
theorem mtcP_to(s:ByteArray)(ka:List Int)(la:List (List Int))(kd:List Int)(ld:List (List Int))(m i:Int)(hs:s.size<=1073741824)(h0:0<=i)(h1:i<s.size)(htk:TkOk s ld):
  Va2 Tryz.prog 136 [.av (rdV s ka la kd ld),jI i] [glM m] [] (.av (.tup [Vap (mtcP s kd ld i).1,vI (mtcP s kd ld i).2])) [glM m] []:=by
 have w0:=wrE (i+1) (i+1) kv;unfold mtcP;refine bGs Tryz.func136 ?_;cases d1:decide (i+1>=((Za s:Nat):Int))with
 |true=>
  simp only[cond_true];refine gO (tn 4 (kn w0 (tn 5 (kb d1 (kb d1 (kb d1 (kb d1 (kb d1 (kb d1 (kb d1 (kb (b:=true) (d:=true) rfl (tn 3 z)))))))))))) ?_;exact eNs
 | false=>
  have d1':=of_decide_eq_false d1
  have hib:=ib s (i+1) ⟨by omega,by omega⟩;cases d2:(BYi s (i+1) !=96)with
  |true=>
   simp only[cond_true,cond_false];refine gO (tn 4 (kn w0 (tn 5 (kb d1 (tn 1 (kb d1 (tn 1 (kb d1 (tn 1 (kb d1 (kn w0 (kb d1 (kp hib (kb d1 (tn 1 (kb d1 (kb d2 (tn 3 z)))))))))))))))))) ?_;exact eNs
  | false=>
   simp only[cond_false]
   have k1:=Vk4 s (i+1) hs kv kv
   have hb:=Veo s (i+1) kv
   have hl:=tkG_ok htk kd (mtcN s i)
   have w1:IntKind.i64.wrap (runE s (i+1)-i)=runE s (i+1)-i:=wrE _ _ kv
   have w2:IntKind.i64.wrap (runE s (i+1)-i-1)=mtcN s i:=wrE _ _ (by unfold mtcN;omega)
   have hn0:mtcN s i<=s.size/\0<=mtcN s i:=by unfold mtcN;omega
   obtain⟨J,hJ⟩:∃ J,mtcJ s kd ld i=J:=⟨_,rfl⟩
   have hbd:¬ J<0->runE s (i+1)<=J/\J<s.size:=λh=>by rw[<-hJ]at h ⊢;exact mtcJ_bd i htk h
   rw[hJ]
   have hreg:W Tryz.prog (.region 5 (Va7 5 Tryz.f136) false) (λx S1=>x=.normal/\Weak S1 (mcT s ka la kd ld m (runE s (i+1)) (mtcN s i) J)) (mcS s ka la kd ld m (runE s (i+1)) (mtcN s i)):=by
    rw[<-hJ];exact mc5 s ka la kd ld m (runE s (i+1)) (mtcN s i) kv
   cases d3:decide (J<0)with
   |true=>
    simp only[cond_true];refine gO (tn 4 (kn w0 (tn 5 (kb d1 (tn 1 (kb d1 (tn 1 (kb d1 (tn 1 (kb d1 (kn w0 (kb d1 (kp hib (kb d1 (tn 1 (kb d1 (kb d2 (tn 3 (kn w0 (kc k1 (tn 3 (kn w1 (kn w2 (kq 5 (tn 1 z))))))))))))))))))))))))) ?_;refine NXW (mcT s ka la kd ld m (runE s (i+1)) (mtcN s i) J) (tn 2 (kb d3 (tn 3 z))) kx ?_ kx ?_
    ·refine Vai (S':=mcS s ka la kd ld m (runE s (i+1)) (mtcN s i)) (WK kx) ?_;exact Val (c':=.region 5 (Va7 5 Tryz.f136) false) kx hreg
    exact eNs
   |false=>
    simp only[cond_false]
    have d3':=of_decide_eq_false d3;obtain⟨b1,b2⟩:=hbd d3'
    have hsl:0<=runE s (i+1)/\runE s (i+1)<=J/\J<=((Za s:Nat):Int):=⟨by omega,b1,by omega⟩
    have k2:=codC_to (ByteArray.extract s (Int.toNat (runE s (i+1))) (Int.toNat J)) m (by rw[Vag];omega)
    have w3:=wrE (J+mtcN s i) (J+mtcN s i) kv
    have w4:=wrE (J+mtcN s i+1) (J+mtcN s i+1) kv;refine gO (tn 4 (kn w0 (tn 5 (kb d1 (tn 1 (kb d1 (tn 1 (kb d1 (tn 1 (kb d1 (kn w0 (kb d1 (kp hib (kb d1 (tn 1 (kb d1 (kb d2 (tn 3 (kn w0 (kc k1 (tn 3 (kn w1 (kn w2 (kq 5 (tn 1 z))))))))))))))))))))))))) ?_;refine NXW (mcT s ka la kd ld m (runE s (i+1)) (mtcN s i) J) (tn 2 (kb d3 (tn 4 (kp hsl (kg k2 trivial (tn 3 (kn w3 (kn w4 (tn 2 z))))))))) kx ?_ kx ?_
    ·refine Vai (S':=mcS s ka la kd ld m (runE s (i+1)) (mtcN s i)) (WK kx) ?_;exact Val (c':=.region 5 (Va7 5 Tryz.f136) false) kx hreg
    exact eNs
theorem hpxB_sz{s p:ByteArray}(h:hpxB s p=true):p.size<=s.size:=by
 unfold hpxB Lib.hasPrefix at h
 have:=(List.isPrefixOf_iff_prefix.1 h).length_le;simpa using this
def kU:Key:=(1310,10)
def useC(s:ByteArray)(v:Int):Bool:=cond (cond (cond (cond (decide (v<((Za s:Nat):Int))) (BYi s v !=124) false) (BYi s v !=123) false) (BYi s v !=125) false) (BYi s v !=10) false
def Voh(s:ByteArray):Nat->Int->Int
 |0,_=>default
 |n+1,v=>cond (useC s v) (Voh s n (v+1)) v
def usE(s:ByteArray)(v:Int):Int:=Voh s ((s.size-Int.toNat v)+1) v
theorem usE_bd(s:ByteArray)(i:Int)(h:0<=i):i<=usE s i/\(usE s i<=s.size\/usE s i<=i):=by
 refine Ven s (Voh s) (λn v=>?_) _ i h kv;rw[Voh];refine Va5 (λr:Int=>r=v\/(v<(s.size:Int)/\r=Voh s n (v+1))) (λq=>.inr ⟨?_,rfl⟩) (λq=>.inl rfl);unfold useC at q;exact of_decide_eq_true (Va9 (Va9 (Va9 (Va9 q).1).1).1).1
def bb2:ByteArray:=⟨#[125,125]⟩
def ob2:ByteArray:=⟨#[123,123]⟩
def usI(t:ByteArray)(l:List ByteArray):DInline:=DInline.mk 15 t ⟨#[]⟩ ⟨#[]⟩ ⟨⟨#[]⟩,[],[]⟩ l [] []
def usL(s t:ByteArray):Nat->Int->List ByteArray->DInline×Int
  |0,_,_=>default
  |n+1,v,l=>cond (cond (decide (v<((Za s:Nat):Int))) (BYi s v==124) false)
      (cond (((l.map Vay).length:Int)==8) (zI,0) (usL s t n (usE s (v+1)) (l++[ByteArray.extract s (Int.toNat (v+1)) (Int.toNat (usE s (v+1)))])))
      (cond (!hpxB (ByteArray.extract s (Int.toNat v) (Za s)) bb2) (zI,0) (usI t l,v+2))
def useP(s:ByteArray)(i:Int):DInline×Int:=cond (!hpxB (ByteArray.extract s (Int.toNat i) (Za s)) ob2) (zI,0)
 (cond (!namA (ByteArray.extract s (Int.toNat (i+2)) (Int.toNat (nmeS s (i+2))))) (zI,0) (usL s (ByteArray.extract s (Int.toNat (i+2)) (Int.toNat (nmeS s (i+2)))) (s.size+2) (nmeS s (i+2)) []))
def zC:ABox:=.cells 42 [.av (vI 0),.av (vS ⟨#[]⟩),.av (vS ⟨#[]⟩),.av (vS ⟨#[]⟩),.av (vS ⟨#[]⟩),.nil,.nil,.nil,.nil,.nil]
def usB(t:ByteArray)(g:Nat)(l:List ByteArray):List (Nat×ABox):=[(8,.cells 42 [jI 15,jS t,jS ⟨#[]⟩,jS ⟨#[]⟩,jS ⟨#[]⟩,.nil,.nil,.own kU g 1 (l.map Vay),.nil,.nil]),(4,zC)]
def usS(s t:ByteArray)(v:Int)(l:List ByteArray):St:=sx 96 [(0,jS s),(4,.ptr 4 0),(7,jI v),(8,.ptr 8 0)] (usB t l.length l) [(kU,l.length)]
def usS2(s t:ByteArray)(at' v:Int)(l:List ByteArray):St:=sx 96 [(0,jS s),(4,.ptr 4 0),(6,jI at'),(7,jI v),(8,.ptr 8 0)] (usB t l.length l) [(kU,l.length)]
def oBnd(l:List ByteArray)(x:ByteArray):Prop:=l.length=l.length/\Uni 1 [vS x]/\((l.map Vay).length+([vS x]:List AV).length)*16<=140737488355328
theorem us15(s t:ByteArray)(at' v:Int)(l:List ByteArray)(h0:0<=at')(h1:at'<=v)(h2:v<=s.size)(hl:l.length<=100):W Tryz.prog (.region 15 (Va7 15 Tryz.f140) true) (λe S1=>e=.normal/\Weak S1 (usS s t v (l++[ByteArray.extract s (Int.toNat at') (Int.toNat v)]))) (usS2 s t at' v l):=by
 have hu:Uni 1 [vS (ByteArray.extract s (Int.toNat at') (Int.toNat v))]:=Vmw rfl rfl
 have hC:oBnd l (ByteArray.extract s (Int.toNat at') (Int.toNat v)):=⟨rfl,hu,by simp;omega⟩
 have e:usS s t v (l++[ByteArray.extract s (Int.toNat at') (Int.toNat v)])=sx 96 [(0,jS s),(4,.ptr 4 0),(7,jI v),(8,.ptr 8 0)] [(8,.cells 42 [jI 15,jS t,jS ⟨#[]⟩,jS ⟨#[]⟩,jS ⟨#[]⟩,.nil,.nil,.own kU (l.length+1) 1 (l.map Vay++[vS (ByteArray.extract s (Int.toNat at') (Int.toNat v))]),.nil,.nil]),(4,zC)] [(kU,l.length+1)]:=by simp[usS,usB,Vay]
 rw[e];exact Vgt (cs:=[True,True,True,True,True,0<=at'/\at'<=v/\v<=((Za s:Nat):Int),Uni 1 [vS (ByteArray.extract s (Int.toNat at') (Int.toNat v))],oBnd l (ByteArray.extract s (Int.toNat at') (Int.toNat v)),oBnd l (ByteArray.extract s (Int.toNat at') (Int.toNat v)),True,True,True]) 7 kx kx 96 [(0,jS s),(4,.ptr 4 0),(7,jI v),(8,.ptr 8 0)] _ _ ⟨trivial,trivial,trivial,trivial,trivial,⟨h0,h1,h2⟩,hu,hC,hC,trivial,trivial,trivial,trivial⟩ kx kx
def us5S(s:ByteArray)(at' tO:Int):St:=sx 96 [(0,jS s),(4,.ptr 4 0),(6,jI at'),(7,jI tO)] [(4,zC)] []
def us5T(s t:ByteArray)(tO:Int):St:=sx 96 [(0,jS s),(4,.ptr 4 0),(7,jI tO),(8,.ptr 8 0)] [(8,.cells 42 [jI 15,jS t,jS ⟨#[]⟩,jS ⟨#[]⟩,jS ⟨#[]⟩,.nil,.nil,.nil,.nil,.nil]),(4,zC)] []
def zIV:Value:=.agg #[.int .i64 0,.string ⟨#[]⟩,.string ⟨#[]⟩,.string ⟨#[]⟩,.string ⟨#[]⟩,.slice none 0 0,.slice none 0 0,.slice none 0 0,.slice none 0 0,.slice none 0 0]
def zIP:List (Nat×Nat):=[(0,1),(1,1),(2,1),(3,1),(4,3),(7,1),(8,1),(9,1)]
theorem us5(s:ByteArray)(at' tO:Int)(h:0<=at'/\at'<=tO/\tO<=((Za s:Nat):Int)):W Tryz.prog (.region 5 (Va7 5 Tryz.f140) false) (λe S1=>e=.normal/\Weak S1 (us5T s (ByteArray.extract s (Int.toNat at') (Int.toNat tO)) tO)) (us5S s at' tO):=by
 refine Van ?_;rw[show(Va7 5 Tryz.f140).toList=[regO 5 Tryz.f140 0,regO 5 Tryz.f140 1,regO 5 Tryz.f140 2,regO 5 Tryz.f140 3,regO 5 Tryz.f140 4,regO 5 Tryz.f140 5,regO 5 Tryz.f140 6] by kernel_rfl];refine Var (jS s) 20 kx kx ?_;refine Var (jI at') 21 kx kx ?_;refine Var (jI tO) 22 kx kx ?_;refine WO_pureP (jS (ByteArray.extract s (Int.toNat at') (Int.toNat tO))) 23 h kx kx ?_;refine Vc5 (.av (.agg [vI 15,vS (ByteArray.extract s (Int.toNat at') (Int.toNat tO)),vS ⟨#[]⟩,vS ⟨#[]⟩,vS ⟨#[]⟩,.val (.slice none 0 0),.val (.slice none 0 0),.val (.slice none 0 0),.val (.slice none 0 0),.val (.slice none 0 0)])) 24 kx (Vop (t:=42) (sz:=10) (bt:=192) (z:=zIV) (pl:=zIP) (parts:=#[(0,.const (.int .i64 15)),(1,.tmp 23)]) (ps:=[(0,vI 15),(1,vS (ByteArray.extract s (Int.toNat at') (Int.toNat tO)))]) kx kx kx kx kx kx) ?_;refine Vc5 (.ptr 8 0) 8 kx (Vk1 (t:=42) (sz:=10) (bt:=192) (z:=zIV) (id:=8) kx kx kx gj kx) ?_;refine WO_ownN kx (Vjt (t:=42) (sz:=10) (bt:=192) (z:=some zIV) (x:=.tmp 8) (y:=.tmp 24) (b:=8) (k:=0) (ty:=42) (l:=zeroCells zIV) (xs:=[jI 15,jS (ByteArray.extract s (Int.toNat at') (Int.toNat tO)),jS ⟨#[]⟩,jS ⟨#[]⟩,jS ⟨#[]⟩,.nil,.nil,.nil,.nil,.nil]) kx kx kx kx kx rfl (Nat.le_of_ble_eq_true rfl)) ?_;exact Vbk rfl ⟨rfl,WK kx⟩
theorem useP_to(s:ByteArray)(i:Int)(hs:s.size<=1073741824)(h0:0<=i)(h1:i<s.size):Va2 Tryz.prog 140 [jS s,jI i] [] [] (.av (.tup [Vap (useP s i).1,vI (useP s i).2])) [] []:=by
 obtain⟨R,hR⟩:∃ R,useP s i=R:=⟨_,rfl⟩
 rw[hR];unfold useP at hR
 have hsl:0<=i/\i<=((Za s:Nat):Int)/\((Za s:Nat):Int)<=((Za s:Nat):Int):=⟨h0,by omega,Zp _⟩
 have k1:=Vcb (ByteArray.extract s (Int.toNat i) (Za s)) ob2;refine bG Tryz.func140 ?_;cases c1:hpxB (ByteArray.extract s (Int.toNat i) (Za s)) ob2 with
 |false=>
  rw[c1]at hR;simp only[Zm,cond_true]at hR;subst hR;refine gO (tn 4 (kp hsl (kc k1 (tn 1 (kb (b:= !hpxB (ByteArray.extract s (Int.toNat i) (Za s)) ob2) (d:=true) (by rw[c1];rfl) (tn 3 z)))))) ?_;exact eN
 | true=>
  rw[c1]at hR;simp only[Zo,cond_false]at hR
  have w1:=wrE (i+2) (i+2) kv
  have k2:=Vnj s (i+2) hs kv kv
  have hb2:=Vfh s (i+2) kv
  have hsz:i+2<=s.size:=by have h2:=hpxB_sz c1;have e2:ob2.size=2:=rfl;rw[Vag]at h2;omega
  have hsl2:0<=i+2/\i+2<=nmeS s (i+2)/\nmeS s (i+2)<=((Za s:Nat):Int):=⟨by omega,hb2.1,by omega⟩
  obtain⟨T,hT⟩:∃ T,ByteArray.extract s (Int.toNat (i+2)) (Int.toNat (nmeS s (i+2)))=T:=⟨_,rfl⟩
  have k3:=Vic T (by rw[<-hT,Vag];omega);rw[hT]at hR;subst hT;cases c2:namA (ByteArray.extract s (Int.toNat (i+2)) (Int.toNat (nmeS s (i+2))))with
  |false=>
   rw[c2]at hR;simp only[Zm,cond_true]at hR;subst hR;refine gO (tn 4 (kp hsl (kc k1 (tn 1 (kb (b:= !hpxB (ByteArray.extract s (Int.toNat i) (Za s)) ob2) (d:=false) (by rw[c1];rfl) (tn 1 (kn w1 (tn 3 (kc k2 (kq 5 (tn 1 z))))))))))) ?_;refine NXW (us5T s (ByteArray.extract s (Int.toNat (i+2)) (Int.toNat (nmeS s (i+2)))) (nmeS s (i+2))) (tn 2 (kc k3 (tn 1 (kb (b:= !namA (ByteArray.extract s (Int.toNat (i+2)) (Int.toNat (nmeS s (i+2))))) (d:=true) (by rw[c2];rfl) (tn 3 z))))) kx ?_ kx ?_
   ·refine Vai (S':=us5S s (i+2) (nmeS s (i+2))) (WK kx) ?_;exact Val (c':=.region 5 (Va7 5 Tryz.f140) false) kx (us5 s (i+2) (nmeS s (i+2)) hsl2)
   exact eN
  | true=>
   rw[c2]at hR;simp only[Zo,cond_false]at hR;refine gO (tn 4 (kp hsl (kc k1 (tn 1 (kb (b:= !hpxB (ByteArray.extract s (Int.toNat i) (Za s)) ob2) (d:=false) (by rw[c1];rfl) (tn 1 (kn w1 (tn 3 (kc k2 (kq 5 (tn 1 z))))))))))) ?_;refine NXW (us5T s (ByteArray.extract s (Int.toNat (i+2)) (Int.toNat (nmeS s (i+2)))) (nmeS s (i+2))) (kq 6 z) kx ?_ kx ?_
   ·refine Vai (S':=us5S s (i+2) (nmeS s (i+2))) (WK kx) ?_;exact Val (c':=.region 5 (Va7 5 Tryz.f140) false) kx (us5 s (i+2) (nmeS s (i+2)) hsl2)
   refine RT [(8,7,.own kU 0 1 (([]:List ByteArray).map Vay))] (ac (show([]:List AV)=[]/\0<10/\(0:Nat)=0 from⟨rfl,by decide,rfl⟩) an) kx ?_;refine gO (tn 2 (kc k3 (tn 1 (kb (b:= !namA (ByteArray.extract s (Int.toNat (i+2)) (Int.toNat (nmeS s (i+2))))) (d:=false) (by rw[c2];rfl) z)))) ?_;refine LP (n:=s.size+2) (λN M S=>∃(v:Int)(l:List ByteArray),0<=v/\v<=s.size/\l.length<=8/\usL s (ByteArray.extract s (Int.toNat (i+2)) (Int.toNat (nmeS s (i+2)))) N v l=R/\s.size-Int.toNat v<N/\M=()/\S=usS s (ByteArray.extract s (Int.toNat (i+2)) (Int.toNat (nmeS s (i+2)))) v l) kx ⟨nmeS s (i+2),[],by omega,by omega,by decide,hR,by omega,rfl,rfl⟩ (WK kx) ?_;rintro n0 M S ⟨v0,l,hv0,hv02,hl,hM0,hF,rfl,rfl⟩;obtain⟨n0,rfl⟩:∃ k,n0=k+1:=⟨n0-1,by omega⟩
   rw[usL]at hM0
   have hsl3:0<=v0/\v0<=((Za s:Nat):Int)/\((Za s:Nat):Int)<=((Za s:Nat):Int):=⟨hv0,hv02,Zp _⟩
   have k5:=Vcb (ByteArray.extract s (Int.toNat v0) (Za s)) bb2
   have w5:=wrE (v0+2) (v0+2) kv;cases d1:decide (v0<((Za s:Nat):Int))with
   | false=>
    rw[d1]at hM0;simp only[cond_false]at hM0;refine gO (tn 5 (kb d1 (kb d1 (kb d1 (kb d1 (kb d1 (kb (b:=false) (d:=false) rfl z))))))) ?_;cases c3:hpxB (ByteArray.extract s (Int.toNat v0) (Za s)) bb2 with
    |false=>
     rw[c3]at hM0;simp only[Zm,cond_true]at hM0;subst hM0;refine OUT (tn 2 (kp hsl3 (kc k5 (tn 1 (kb (b:= !hpxB (ByteArray.extract s (Int.toNat v0) (Za s)) bb2) (d:=true) (by rw[c3];rfl) (tn 3 z)))))) kx ?_;exact eN
    |true=>
     rw[c3]at hM0;simp only[Zo,cond_false]at hM0;subst hM0;refine OUT (tn 2 (kp hsl3 (kc k5 (tn 1 (kb (b:= !hpxB (ByteArray.extract s (Int.toNat v0) (Za s)) bb2) (d:=false) (by rw[c3];rfl) (tn 2 (kn w5 (tn 2 z)))))))) kx ?_;exact eN
   | true=>
    have d1':=of_decide_eq_true d1
    have hib2:=ib s v0 ⟨by omega,by omega⟩;rw[d1]at hM0;simp only[cond_true]at hM0;cases d2:(BYi s v0==124)with
    | false=>
     rw[d2]at hM0;simp only[cond_false]at hM0;refine gO (tn 5 (kb d1 (tn 1 (kb d1 (tn 1 (kb d1 (kp hib2 (kb d1 (tn 1 (kb d1 (kb d2 z))))))))))) ?_;cases c3:hpxB (ByteArray.extract s (Int.toNat v0) (Za s)) bb2 with
     |false=>
      rw[c3]at hM0;simp only[Zm,cond_true]at hM0;subst hM0;refine OUT (tn 2 (kp hsl3 (kc k5 (tn 1 (kb (b:= !hpxB (ByteArray.extract s (Int.toNat v0) (Za s)) bb2) (d:=true) (by rw[c3];rfl) (tn 3 z)))))) kx ?_;exact eN
     |true=>
      rw[c3]at hM0;simp only[Zo,cond_false]at hM0;subst hM0;refine OUT (tn 2 (kp hsl3 (kc k5 (tn 1 (kb (b:= !hpxB (ByteArray.extract s (Int.toNat v0) (Za s)) bb2) (d:=false) (by rw[c3];rfl) (tn 2 (kn w5 (tn 2 z)))))))) kx ?_;exact eN
    | true=>
     rw[d2]at hM0;simp only[cond_true]at hM0;cases d3:(((l.map Vay).length:Int)==8)with
     |true=>
      rw[d3]at hM0;simp only[cond_true]at hM0;subst hM0;refine gO (tn 5 (kb d1 (tn 1 (kb d1 (tn 1 (kb d1 (kp hib2 (kb d1 (tn 1 (kb d1 (kb d2 (tn 4 (kb d3 (tn 3 z)))))))))))))) ?_;refine OUT z kx ?_;exact eN
     | false=>
      rw[d3]at hM0;simp only[cond_false]at hM0
      have d3':=ne_of_beq_false d3;simp only[Zh]at d3'
      have w3:=wrE (v0+1) (v0+1) kv;refine gO (tn 5 (kb d1 (tn 1 (kb d1 (tn 1 (kb d1 (kp hib2 (kb d1 (tn 1 (kb d1 (kb d2 (tn 4 (kb d3 (tn 1 (kn w3 (tn 3 z)))))))))))))))) ?_;refine LP (n:=(s.size-Int.toNat (v0+1))+1) (λN M S=>∃ v:Int,v0+1<=v/\v<=s.size/\Voh s N v=usE s (v0+1)/\s.size-Int.toNat v<N/\M=()/\S=usS2 s (ByteArray.extract s (Int.toNat (i+2)) (Int.toNat (nmeS s (i+2)))) (v0+1) v l) kx ⟨v0+1,by omega,by omega,rfl,by omega,rfl,rfl⟩ (WK kx) ?_;rintro n1 M S ⟨v,hv,hv2,hM,hF1,rfl,rfl⟩;obtain⟨n1,rfl⟩:∃ k,n1=k+1:=⟨n1-1,by omega⟩
      rw[Voh]at hM;cases q0:decide (v<((Za s:Nat):Int))with
      |false=>
       have hM:v=usE s (v0+1):=by unfold useC at hM;rw[q0]at hM;exact hM
       refine gO (tn 5 (kb q0 (kb q0 (kb q0 (kb q0 (kb q0 (tn 1 (kb (b:=false) (d:=false) rfl (kb (b:=false) (d:=false) rfl (kb (b:=false) (d:=false) rfl (kb (b:=false) (d:=false) rfl (kb (b:=false) (d:=false) rfl (tn 1 (kb (b:=false) (d:=false) rfl (kb (b:=false) (d:=false) rfl (kb (b:=false) (d:=false) rfl (kb (b:=false) (d:=false) rfl (kb (b:=false) (d:=false) rfl (tn 1 (kb (b:=false) (d:=false) rfl (kb (b:=false) (d:=false) rfl (kb (b:=false) (d:=false) rfl (kb (b:=false) (d:=false) rfl (kb (b:=false) (d:=false) rfl (kb (b:=false) (d:=false) rfl z))))))))))))))))))))))))) ?_;subst hM;refine OUT z kx ?_;refine NXW (usS s (ByteArray.extract s (Int.toNat (i+2)) (Int.toNat (nmeS s (i+2)))) (usE s (v0+1)) (l++[ByteArray.extract s (Int.toNat (v0+1)) (Int.toNat (usE s (v0+1)))])) z kx ?_ kx ?_
       ·refine Vai (S':=usS2 s (ByteArray.extract s (Int.toNat (i+2)) (Int.toNat (nmeS s (i+2)))) (v0+1) (usE s (v0+1)) l) (WK kx) ?_;exact Val (c':=.region 15 (Va7 15 Tryz.f140) true) kx (us15 s (ByteArray.extract s (Int.toNat (i+2)) (Int.toNat (nmeS s (i+2)))) (v0+1) (usE s (v0+1)) l kv hv hv2 kv)
       exact AG (m:=n0) ⟨usE s (v0+1),l++[ByteArray.extract s (Int.toNat (v0+1)) (Int.toNat (usE s (v0+1)))],by omega,by omega,by simp;omega,hM0,by omega,rfl,rfl⟩ (WK kx) kx (Zf _)
      | true=>
       have q0':=of_decide_eq_true q0
       have hib2:=ib s v ⟨by omega,by omega⟩;cases q1:(BYi s v !=124)with
       |false=>
        have hM:v=usE s (v0+1):=by unfold useC at hM;rw[q0,q1]at hM;exact hM
        refine gO (tn 5 (kb q0 (tn 1 (kb q0 (tn 1 (kb q0 (kp hib2 (kb q0 (tn 1 (kb q0 (tn 1 (kb q1 (kb q1 (kb q1 (kb q1 (kb q1 (tn 1 (kb (b:=false) (d:=false) rfl (kb (b:=false) (d:=false) rfl (kb (b:=false) (d:=false) rfl (kb (b:=false) (d:=false) rfl (kb (b:=false) (d:=false) rfl (tn 1 (kb (b:=false) (d:=false) rfl (kb (b:=false) (d:=false) rfl (kb (b:=false) (d:=false) rfl (kb (b:=false) (d:=false) rfl (kb (b:=false) (d:=false) rfl (kb (b:=false) (d:=false) rfl z))))))))))))))))))))))))))))) ?_;subst hM;refine OUT z kx ?_;refine NXW (usS s (ByteArray.extract s (Int.toNat (i+2)) (Int.toNat (nmeS s (i+2)))) (usE s (v0+1)) (l++[ByteArray.extract s (Int.toNat (v0+1)) (Int.toNat (usE s (v0+1)))])) z kx ?_ kx ?_
        ·refine Vai (S':=usS2 s (ByteArray.extract s (Int.toNat (i+2)) (Int.toNat (nmeS s (i+2)))) (v0+1) (usE s (v0+1)) l) (WK kx) ?_;exact Val (c':=.region 15 (Va7 15 Tryz.f140) true) kx (us15 s (ByteArray.extract s (Int.toNat (i+2)) (Int.toNat (nmeS s (i+2)))) (v0+1) (usE s (v0+1)) l kv hv hv2 kv)
        exact AG (m:=n0) ⟨usE s (v0+1),l++[ByteArray.extract s (Int.toNat (v0+1)) (Int.toNat (usE s (v0+1)))],by omega,by omega,by simp;omega,hM0,by omega,rfl,rfl⟩ (WK kx) kx (Zf _)
       | true=>
        cases q2:(BYi s v !=123)with
        |false=>
         have hM:v=usE s (v0+1):=by unfold useC at hM;rw[q0,q1,q2]at hM;exact hM
         refine gO (tn 5 (kb q0 (tn 1 (kb q0 (tn 1 (kb q0 (kp hib2 (kb q0 (tn 1 (kb q0 (tn 1 (kb q1 (tn 1 (kb q1 (tn 1 (kb q1 (kp hib2 (kb q1 (tn 1 (kb q1 (tn 1 (kb q2 (kb q2 (kb q2 (kb q2 (kb q2 (tn 1 (kb (b:=false) (d:=false) rfl (kb (b:=false) (d:=false) rfl (kb (b:=false) (d:=false) rfl (kb (b:=false) (d:=false) rfl (kb (b:=false) (d:=false) rfl (kb (b:=false) (d:=false) rfl z))))))))))))))))))))))))))))))))) ?_;subst hM;refine OUT z kx ?_;refine NXW (usS s (ByteArray.extract s (Int.toNat (i+2)) (Int.toNat (nmeS s (i+2)))) (usE s (v0+1)) (l++[ByteArray.extract s (Int.toNat (v0+1)) (Int.toNat (usE s (v0+1)))])) z kx ?_ kx ?_
         ·refine Vai (S':=usS2 s (ByteArray.extract s (Int.toNat (i+2)) (Int.toNat (nmeS s (i+2)))) (v0+1) (usE s (v0+1)) l) (WK kx) ?_;exact Val (c':=.region 15 (Va7 15 Tryz.f140) true) kx (us15 s (ByteArray.extract s (Int.toNat (i+2)) (Int.toNat (nmeS s (i+2)))) (v0+1) (usE s (v0+1)) l kv hv hv2 kv)
         exact AG (m:=n0) ⟨usE s (v0+1),l++[ByteArray.extract s (Int.toNat (v0+1)) (Int.toNat (usE s (v0+1)))],by omega,by omega,by simp;omega,hM0,by omega,rfl,rfl⟩ (WK kx) kx (Zf _)
        | true=>
         cases q3:(BYi s v !=125)with
         |false=>
          have hM:v=usE s (v0+1):=by unfold useC at hM;rw[q0,q1,q2,q3]at hM;exact hM
          refine gO (tn 5 (kb q0 (tn 1 (kb q0 (tn 1 (kb q0 (kp hib2 (kb q0 (tn 1 (kb q0 (tn 1 (kb q1 (tn 1 (kb q1 (tn 1 (kb q1 (kp hib2 (kb q1 (tn 1 (kb q1 (tn 1 (kb q2 (tn 1 (kb q2 (tn 1 (kb q2 (kp hib2 (kb q2 (tn 1 (kb q2 (tn 1 (kb q3 (kb q3 (kb q3 (kb q3 (kb q3 (kb (b:=false) (d:=false) rfl z))))))))))))))))))))))))))))))))))))) ?_;subst hM;refine OUT z kx ?_;refine NXW (usS s (ByteArray.extract s (Int.toNat (i+2)) (Int.toNat (nmeS s (i+2)))) (usE s (v0+1)) (l++[ByteArray.extract s (Int.toNat (v0+1)) (Int.toNat (usE s (v0+1)))])) z kx ?_ kx ?_
          ·refine Vai (S':=usS2 s (ByteArray.extract s (Int.toNat (i+2)) (Int.toNat (nmeS s (i+2)))) (v0+1) (usE s (v0+1)) l) (WK kx) ?_;exact Val (c':=.region 15 (Va7 15 Tryz.f140) true) kx (us15 s (ByteArray.extract s (Int.toNat (i+2)) (Int.toNat (nmeS s (i+2)))) (v0+1) (usE s (v0+1)) l kv hv hv2 kv)
          exact AG (m:=n0) ⟨usE s (v0+1),l++[ByteArray.extract s (Int.toNat (v0+1)) (Int.toNat (usE s (v0+1)))],by omega,by omega,by simp;omega,hM0,by omega,rfl,rfl⟩ (WK kx) kx (Zf _)
         | true=>
          cases q4:(BYi s v !=10)with
          |false=>
           have hM:v=usE s (v0+1):=by unfold useC at hM;rw[q0,q1,q2,q3,q4]at hM;exact hM
           refine gO (tn 5 (kb q0 (tn 1 (kb q0 (tn 1 (kb q0 (kp hib2 (kb q0 (tn 1 (kb q0 (tn 1 (kb q1 (tn 1 (kb q1 (tn 1 (kb q1 (kp hib2 (kb q1 (tn 1 (kb q1 (tn 1 (kb q2 (tn 1 (kb q2 (tn 1 (kb q2 (kp hib2 (kb q2 (tn 1 (kb q2 (tn 1 (kb q3 (tn 1 (kb q3 (tn 1 (kb q3 (kp hib2 (kb q3 (tn 1 (kb q3 (kb q4 z))))))))))))))))))))))))))))))))))))))))) ?_;subst hM;refine OUT z kx ?_;refine NXW (usS s (ByteArray.extract s (Int.toNat (i+2)) (Int.toNat (nmeS s (i+2)))) (usE s (v0+1)) (l++[ByteArray.extract s (Int.toNat (v0+1)) (Int.toNat (usE s (v0+1)))])) z kx ?_ kx ?_
           ·refine Vai (S':=usS2 s (ByteArray.extract s (Int.toNat (i+2)) (Int.toNat (nmeS s (i+2)))) (v0+1) (usE s (v0+1)) l) (WK kx) ?_;exact Val (c':=.region 15 (Va7 15 Tryz.f140) true) kx (us15 s (ByteArray.extract s (Int.toNat (i+2)) (Int.toNat (nmeS s (i+2)))) (v0+1) (usE s (v0+1)) l kv hv hv2 kv)
           exact AG (m:=n0) ⟨usE s (v0+1),l++[ByteArray.extract s (Int.toNat (v0+1)) (Int.toNat (usE s (v0+1)))],by omega,by omega,by simp;omega,hM0,by omega,rfl,rfl⟩ (WK kx) kx (Zf _)
          |true=>
           have hM:Voh s n1 (v+1)=usE s (v0+1):=by unfold useC at hM;rw[q0,q1,q2,q3,q4]at hM;exact hM
           have w4:=wrE (v+1) (v+1) kv;refine gO (tn 5 (kb q0 (tn 1 (kb q0 (tn 1 (kb q0 (kp hib2 (kb q0 (tn 1 (kb q0 (tn 1 (kb q1 (tn 1 (kb q1 (tn 1 (kb q1 (kp hib2 (kb q1 (tn 1 (kb q1 (tn 1 (kb q2 (tn 1 (kb q2 (tn 1 (kb q2 (kp hib2 (kb q2 (tn 1 (kb q2 (tn 1 (kb q3 (tn 1 (kb q3 (tn 1 (kb q3 (kp hib2 (kb q3 (tn 1 (kb q3 (kb q4 (tn 1 (kn w4 (tn 1 z)))))))))))))))))))))))))))))))))))))))))))) ?_;exact AG (m:=n1) ⟨v+1,by omega,by omega,hM,by omega,rfl,rfl⟩ (WK kx) kx (Zf _)
end Go.Proofs.YthbpjmogdonlkaaGreatDoor
namespace Go.Proofs.YthbpjmogdonlkaaGreatDoor
open Go Go.Eng Go.RowKit Go.Shelf
attribute [local go_sem] Oper.semAt_some
theorem Vl4{W:World}{B:Nat}{t:TypeId}{v v':Value}(h:Boxed W B t v):Boxed (W.setCell ⟨B,0,none⟩ v') B t v':=h.set v'
theorem own_and3{β:Type}{B:Nat}{I:β->World->Prop}{P:β->Prop}(h:OwnFrom B I):OwnFrom B (λs W=>I s W/\P s):=λs W W' row hs hg hr=>⟨h s W W' row hs.1 hg hr,hs.2⟩
theorem inf_cit:(Tryz.prog.info? 77).map (λi=>(i.zero,i.size,i.bytes))=some (some (.agg #[.string ⟨#[]⟩,.string ⟨#[]⟩,.string ⟨#[]⟩,.bool false]),4,56):=by kernel_rfl
theorem row_sl{W:World}{b e sz n:Nat}{v:Value}{xs:List Value}(h:W.ownsRow b e sz v n xs):∃ ao k c,v=.slice ao k c:=by
 rcases h.2 with⟨rfl,_⟩|⟨g,cap,cur,rfl,_⟩ <;>exact⟨_,_,_,rfl⟩
def IsC(x:ByteArray)(c:DCited):Prop:=(citF x).1=c
theorem Vhk(W:World)(v:Array Value)(t:TypeId)(v2:Array Value)(t2:TypeId)(u:Value)(j:Nat)(h:v2[j]? =some u):((W.alloc (.cells v t)).alloc (.cells v2 t2)).cell? ((⟨(W.alloc (.cells v t)).heap.size,0,none⟩:Addr).add j)=some u:=by
 have h1:=World.alloc_heap_new (W.alloc (.cells v t)) (.cells v2 t2);rw[Vba];simp only[World.cell?,h1,Nat.zero_add];exact h
theorem Vgk{V:World}{B C:Nat}{v:Value}(h:C≠B):(V.setCell ⟨B,0,none⟩ v).heap[C]? =V.heap[C]? :=by
 simp[World.setCell,Array.getElem?_modify,Ne.symm h]
theorem Vjb{W W':World}{b b' e sz n:Nat}{v:Value}{xs:List Value}(h:W.ownsRow b e sz v n xs)(hb:b'<=b)(hh:∀ g cur m,b<=g->W.heap[g]? =some (.cells cur e m)->W'.heap[g]? =W.heap[g]?):W'.ownsRow b' e sz v n xs:=by
 refine⟨h.1,?_⟩;rcases h.2 with hn|⟨g,cap,cur,rfl,hg,hc,rest⟩
 ·exact .inl hn
 ·exact .inr ⟨g,cap,cur,rfl,by omega,(hh g cur _ hg hc).trans hc,rest⟩
theorem cts_calls(s:ByteArray)(hs:s.size<=1073741824)(h1:ctnG s CTN=false)(w:World):
    CallsIn Fence.wide 1 Tryz.prog 189 #[.string s] w λe w'=>Below w.heap.size w w'/\(((∀x∈prt s,(citF x).2=true)/\∃ v,e=.returned (.tuple #[v,.bool true])/\w'.ownsRow w.heap.size 77 4 v (prt s).length (cutC (prt s)))\/
      ((∃x∈prt s,(citF x).2=false)/\e=.returned (.tuple #[.slice none 0 0,.bool false]))):=by
  refine callsIn_of_wp_marks Tryz.func189 rfl trivial ?_ rfl;simp only[Tryz.ntmps189,List.size_toArray,List.length_cons,List.length_nil,Nat.reduceAdd,Nat.reduceSub,Array.replicate_succ,Array.replicate_zero,List.push_toArray,List.append_toArray,List.nil_append,List.cons_append]
  gi_wp2
  refine⟨trivial,((callsIn_wide (n:=0)).2 (ctn_in s hs h1 _)).mono ?_⟩;rintro e w1 ⟨rfl,hb1⟩
  gi_wp2
  refine⟨trivial,(sps_in s _).mono ?_⟩;rintro e w' ⟨rfl,rfl⟩;unfold sfn pt
  gi_wp2
  obtain⟨A,hA⟩:∃ A,A=w1.alloc (Obj.cells #[Value.slice none 0 0] 40):=⟨_,rfl⟩
  have zA:A.heap.size=w1.heap.size+1:=by rw[hA];simp
  obtain⟨c1,c2,c3,z3,bA⟩:=sw3_cells s A;rw[zA]at c1 c2 c3 z3
  have z1:w.heap.size+2<=w1.heap.size:=by have:=hb1.size;simpa using this
  have q0:w1.heap[w.heap.size]? =some (oV (.slice none 0 0)):=(hb1.block _ (by simp;omega)).trans ((Below.heap_alloc _ _ _ ku).trans (World.alloc_heap_new w _))
  have q1:w1.heap[w.heap.size+1]? =some oF:=(hb1.block _ ku).trans (by
    have:=World.alloc_heap_new (w.alloc (Obj.cells #[Value.slice none 0 0] 40)) (Obj.cells #[Value.bool false] 4)
    rwa[World.size_alloc]at this)
  have q2:A.heap[w1.heap.size]? =some (oV (.slice none 0 0)):=by rw[hA];exact World.alloc_heap_new w1 _
  have b1:Below w.heap.size w w1:=(((Below.refl _ w).alloc (Zl _) _).alloc ku _).trans (hb1.mono (by simp;omega))
  have bAA:Below w.heap.size w A:=by rw[hA];exact b1.alloc kv _
  have q0':A.heap[w.heap.size]? =some (oV (.slice none 0 0)):=by rw[hA];exact(Below.heap_alloc _ _ _ kv).trans q0
  have q1':A.heap[w.heap.size+1]? =some oF:=by rw[hA];exact(Below.heap_alloc _ _ _ kv).trans q1
  rw[<-hA]
  have b3:Below w.heap.size w (sw3 s A):=bAA.trans (bA.mono kv)
  have r0:(sw3 s A).heap[w.heap.size]? =some (oV (.slice none 0 0)):=(bA.block _ kv).trans q0'
  have r1:(sw3 s A).heap[w.heap.size+1]? =some oF:=(bA.block _ kv).trans q1'
  have r2:(sw3 s A).heap[w1.heap.size]? =some (oV (.slice none 0 0)):=(bA.block _ kv).trans q2;obtain⟨W0,hW0⟩:∃ W0,W0=sw3 s A:=⟨_,rfl⟩
  rw[<-hW0]at c1 c2 c3 z3 b3 r0 r1 r2 ⊢
  have hseq:=spw_in s (w1.heap.size+1+1) (w1.heap.size+1) (w1.heap.size+1+2) W0 kv kv kv kv kv c2 c1 c3 hs;clear hW0 bA bAA q0' q1' q2 hA zA;refine rngW (gf:=301) (lb:=#[pt (w1.heap.size+1+1) 0,pt (w1.heap.size+1) 0,pt (w1.heap.size+1+2) 0]) (w0:=W0) rfl (enters_of Tryz.func301 kx rfl) hseq (Below.refl _ _) kv
    (λ{A B C} h k=>⟨Eq.trans k.1 h.1,Eq.trans k.2.1 h.2.1,Eq.trans k.2.2 h.2.2⟩) (λW l o' hl=>⟨World.putObj_heap_other kv,World.putObj_heap_other kv,World.putObj_heap_other kv⟩)
    (λpre W=>(((W.heap[w.heap.size]? =some (oV (.slice none 0 0))/\W.heap[w.heap.size+1]? =some oF)/\OwnC (w1.heap.size+4) w1.heap.size pre W)/\Below w.heap.size w W)/\∀ x∈pre,(citF x).2=true)
    (λc pre W=>((W.heap[w.heap.size]? =some (oV (.slice none 0 0))/\W.heap[w.heap.size+1]? =some oF)/\Below w.heap.size w W)/\(c=.ret/\∃ x∈pre,(citF x).2=false))
    (own_and3 ((((Vkc _ _ _ rfl).and (Vkc _ _ _ rfl)).and (ownC_own _ _ _)).and (ownFrom_below (Zl _) kv)))
    (λc=>own_and3 (((Vkc _ _ _ rfl).and (Vkc _ _ _ rfl)).and (ownFrom_below (Zl _) kv)))
    ?stab ⟨⟨⟨⟨r0,r1⟩,⟨_,r2,World.ownsRow_nil _ _ _ _,by omega⟩⟩,b3⟩,by simp⟩
    (λx=>{tmps:=#[.string s,undef,pt w.heap.size 0,pt (w.heap.size+1) 0,pt w1.heap.size 0,.string x,undef,undef,.string s,.bool false,.string s,
          .func (.func 301) #[] #[pt (w1.heap.size+1+1) 0,pt (w1.heap.size+1) 0,pt (w1.heap.size+1+2) 0],
          .string x,undef,undef,undef,undef,undef,undef,undef,undef,undef,undef,undef,undef],defers:=[]}) ?assign ?body ?done ?stop
  case stab=>
    rintro pre A r r' ⟨⟨⟨⟨p0,p1⟩,p2⟩,p3⟩,p4⟩ hr;exact⟨⟨⟨⟨(Vco kv).trans p0,(Vco kv).trans p1⟩,ownC_set p2 hr kv kv⟩,p3.setCell (p:=⟨w1.heap.size+1,0,none⟩) (by simp;omega) _⟩,p4⟩
  case assign=>
    intro l x W K hK
    gi_wp2
    exact hK
  case body=>
    rintro l pre x W ⟨⟨⟨⟨p0,p1⟩,⟨v,p2,p5,p6⟩⟩,hbl⟩,hall⟩ ⟨qs,hq⟩
    have hxs:x.size<=1073741824:=Nat.le_trans (prt_sz s x (by rw[<-hq];simp)) hs
    have hlen:pre.length<=1073741824:=by
      have h1:=prt_len s;rw[<-hq]at h1;simp at h1;omega
    obtain⟨ao,kk,cc,rfl⟩:=row_sl p5;unfold pt
    gi_wp2
    refine⟨trivial,rfl,(CallsIn.inRound l ((callsIn_wide (n:=0)).2 (cit_in x hxs W))).mono ?_⟩;rintro e W2 ⟨rfl,hb2⟩;unfold citV
    have z2:w1.heap.size<W.heap.size:=(Zd.1 p2).1
    have z2':W.heap.size<=W2.heap.size:=hb2.size
    have p0':W2.heap[w.heap.size]? =some (oV (.slice none 0 0)):=(hb2.block _ kv).trans p0
    have p1':W2.heap[w.heap.size+1]? =some oF:=(hb2.block _ kv).trans p1
    have p2':W2.heap[w1.heap.size]? =some (oV (.slice ao kk cc)):=(hb2.block _ z2).trans p2
    have p5':W2.ownsRow (w1.heap.size+4) 77 4 (.slice ao kk cc) pre.length (cutC pre):=Vjb p5 (Zl _) (λg cur m hg hc=>hb2.block _ (Zd.1 hc).1);obtain⟨c,hc⟩:∃ c,IsC x c:=⟨_,rfl⟩
    rw[show(citF x).1=c from hc];obtain⟨T,hT⟩:∃ T,T=W2.alloc (Obj.cells #[.string c.fKey,.string c.fPrefix,.string c.fSuffix,.bool c.fBare] 77):=⟨_,rfl⟩
    have zT:T.heap.size=W2.heap.size+1:=by rw[hT];simp
    have tb:∀ k,k<W2.heap.size->T.heap[k]? =W2.heap[k]? :=λk hk=>by rw[hT];exact Below.heap_alloc _ _ _ hk
    have p0a:T.heap[w.heap.size]? =some (oV (.slice none 0 0)):=(tb _ kv).trans p0'
    have p1a:T.heap[w.heap.size+1]? =some oF:=(tb _ kv).trans p1'
    have p2a:T.heap[w1.heap.size]? =some (oV (.slice ao kk cc)):=(tb _ kv).trans p2';cases hok:(citF x).2 with
    | false=>
      have e0:T.cell? ⟨w.heap.size,0,none⟩=some (.slice none 0 0)/\T.frozen? ⟨w.heap.size,0,none⟩=false:=by simp only[World.cell?,World.frozen?,p0a,oV];exact⟨rfl,rfl⟩
      have p1b:(T.setCell ⟨w.heap.size,0,none⟩ (.slice none 0 0)).heap[w.heap.size+1]? =some oF:=(Vgk kv).trans p1a
      have e1:(T.setCell ⟨w.heap.size,0,none⟩ (.slice none 0 0)).cell? ⟨w.heap.size+1,0,none⟩=some (.bool false)/\(T.setCell ⟨w.heap.size,0,none⟩ (.slice none 0 0)).frozen? ⟨w.heap.size+1,0,none⟩=false:=by simp only[World.cell?,World.frozen?,p1b,oF];exact⟨rfl,rfl⟩
      obtain⟨e0a,e0b⟩:=e0;obtain⟨e1a,e1b⟩:=e1;subst hT;clear hseq
      gi_wp2
      have k2:KeepsOthers W W2:=⟨hb2.size,λk o hk _=>(hb2.block k (Zd.1 hk).1).trans hk⟩
      refine⟨((k2.trans (KeepsOthers.alloc _ _)).trans (KeepsOthers.setCell _ _ _)).trans (KeepsOthers.setCell _ _ _),⟨⟨?_,?_⟩,?_⟩,rfl,x,by simp,hok⟩
      · refine(Vgk kv).trans ?_;exact Vl4 (v:=.slice none 0 0) (v':=.slice none 0 0) p0a
      · exact Vl4 (v:=.bool false) (v':=.bool false) p1b
      · exact(((hbl.trans (hb2.mono kv)).alloc kv _).setCell (p:=⟨w.heap.size,0,none⟩) (Zl _) _).setCell (p:=⟨w.heap.size+1,0,none⟩) ku _
    | true=>
      have eC:T.cell? ⟨w1.heap.size,0,none⟩=some (.slice ao kk cc)/\T.frozen? ⟨w1.heap.size,0,none⟩=false:=by simp only[World.cell?,World.frozen?,p2a,oV];exact⟨rfl,rfl⟩
      obtain⟨eCa,eCb⟩:=eC
      have p5a:T.ownsRow (w1.heap.size+4) 77 4 (.slice ao kk cc) pre.length (cutC pre):=Vjb p5' (Zl _) (λg cur m hg hc=>tb _ (Zd.1 hc).1);obtain⟨i0,hi,hz0,hz1,hz2⟩:=info_parts inf_cit;subst hT;clear hseq
      gi_wp2_with (first
        |(gi_at_builtin;refine wpListIn_append_own _ rfl _ _ 40 rfl (w1.heap.size+4) 77 i0 (.agg #[.string ⟨#[]⟩,.string ⟨#[]⟩,.string ⟨#[]⟩,.bool false]) 4 56 Tryz.underlying40 hi hz0 hz1 hz2 rfl gj _ _ _ rfl (p5a.alloc _) ⟨(W2.alloc (Obj.cells #[.string c.fKey,.string c.fPrefix,.string c.fSuffix,.bool c.fBare] 77)).heap.size,0,none⟩ 1 1 (citL c) ?c0 rfl ?c1 ?c2 ?c3 ?c4 ?c5 ?_)
        |gi_in)
      case c0=>
        show Value.slice (some ⟨W2.heap.size+1,0,none⟩) 1 1=_;simp
      case c1=>
        intro j u hj
        match j,hj with
        |0,hj=>simp only[citL,Zv,Zi]at hj;subst hj;exact Vhk _ _ _ _ _ _ 0 rfl
        |1,hj=>simp only[citL,Zv,List.getElem?_cons_succ,Zi]at hj;subst hj;exact Vhk _ _ _ _ _ _ 1 rfl
        |2,hj=>simp only[citL,Zv,List.getElem?_cons_succ,Zi]at hj;subst hj;exact Vhk _ _ _ _ _ _ 2 rfl
        |3,hj=>simp only[citL,Zv,List.getElem?_cons_succ,Zi]at hj;subst hj;exact Vhk _ _ _ _ _ _ 3 rfl
        |j+4,hj=>simp[citL]at hj
      case c2=>intro u hu;simp only[citL,Zb,List.not_mem_nil,or_false]at hu;rcases hu with rfl|rfl|rfl|rfl <;>rfl
      case c3=>unfold maxLen;omega
      case c4=>omega
      case c5=>simp;omega
      intro v' w' hown' hgrow _;obtain⟨ao',kk',cc',rfl⟩:=row_sl hown'
      have hlow:∀ k,k<w1.heap.size+4->k<W2.heap.size->w'.heap[k]? =W2.heap[k]? :=by
        intro k hk1 hk2
        have h0:=hgrow.block k (by simp;omega) (λe=>by have:=p5'.lt k e.symm;omega);rw[h0,Below.heap_alloc _ _ _ (by simp;omega),Below.heap_alloc _ _ _ hk2]
      have kW:KeepsOthers W w':=by
        have k2:KeepsOthers W W2:=⟨hb2.size,λk o hk _=>(hb2.block k (Zd.1 hk).1).trans hk⟩
        refine(k2.trans ((KeepsOthers.alloc _ _).trans (KeepsOthers.alloc _ _))).trans ⟨hgrow.size,λk o hk ho=>(hgrow.block k (Zd.1 hk).1 (λe=>?_)).trans hk⟩;rcases p5'.2 with⟨e2,_⟩|⟨g,cap,cur,e2,_,hc2,_⟩
        · rw[e2]at e;simp[Value.ownBlock]at e
        · rw[e2]at e;simp only[Value.ownBlock,Zi]at e;subst e
          have hlt:=(Zd.1 hc2).1;rw[Below.heap_alloc _ _ _ (by simp;omega),Below.heap_alloc _ _ _ hlt,hc2]at hk;cases hk;cases ho
      have p2w:w'.heap[w1.heap.size]? =some (oV (.slice ao kk cc)):=(hlow _ kv kv).trans p2'
      have eD:w'.cell? ⟨w1.heap.size,0,none⟩=some (.slice ao kk cc)/\w'.frozen? ⟨w1.heap.size,0,none⟩=false:=by simp only[World.cell?,World.frozen?,p2w,oV];exact⟨rfl,rfl⟩
      obtain⟨eDa,eDb⟩:=eD
      have hbw:Below w.heap.size w w':=((hbl.trans (hb2.mono kv)).alloc kv _ |>.alloc (by simp;omega) _).grown hgrow (by simp;omega) (λk e=>by have:=p5'.lt k e;omega)
      have hgrow2:=hgrow.size;clear eCa eCb hgrow
      gi_wp2
      have hfar:∀ k,k<w1.heap.size+4->k≠w1.heap.size->(w'.setCell ⟨w1.heap.size,0,none⟩ (.slice ao' kk' cc')).heap[k]? =W.heap[k]? :=λk hk hne=>(Vgk hne).trans ((hlow k hk kv).trans (hb2.block k kv))
      refine⟨kW.trans (KeepsOthers.setCell _ _ _),⟨hfar _ kv kv,hfar _ kv kv,hfar _ kv kv⟩,⟨⟨⟨⟨(hfar _ kv kv).trans p0,(hfar _ kv kv).trans p1⟩,⟨_,Vl4 (v:=.slice ao kk cc) (v':=.slice ao' kk' cc') p2w,?_,?_⟩⟩,hbw.setCell (p:=⟨w1.heap.size,0,none⟩) (by simp;omega) _⟩,?_⟩⟩
      · have e:cutC (pre++[x])=cutC pre++citL c:=by
          rw[<-(show(citF x).1=c from hc)];simp[cutC,cuts]
        rw[e,Zt];exact Vjb hown' (Zl _) (λg cur m hg hc=>Vgk kv)
      · have:=hgrow2;simp only[World.setCell,Array.size_modify];simp only[World.size_alloc]at this;omega
      · intro y hy;simp only[List.mem_append,Zb,List.not_mem_nil,or_false]at hy;rcases hy with hy|rfl
        · exact hall y hy
        · exact hok
  case done=>
    rintro D W hD ⟨⟨⟨⟨p0,p1⟩,⟨v,p2,p5,p6⟩⟩,hbl⟩,hall⟩ hDk;obtain⟨ao,kk,cc,rfl⟩:=row_sl p5
    have e2:W.cell? ⟨w1.heap.size,0,none⟩=some (.slice ao kk cc):=by simp only[World.cell?,p2,oV];rfl
    have e0:W.cell? ⟨w.heap.size,0,none⟩=some (.slice none 0 0)/\W.frozen? ⟨w.heap.size,0,none⟩=false:=by simp only[World.cell?,World.frozen?,p0,oV];exact⟨rfl,rfl⟩
    have p1b:(W.setCell ⟨w.heap.size,0,none⟩ (.slice ao kk cc)).heap[w.heap.size+1]? =some oF:=(Below.heap_setCell _ _ _ _ ku).trans p1
    have e1:(W.setCell ⟨w.heap.size,0,none⟩ (.slice ao kk cc)).cell? ⟨w.heap.size+1,0,none⟩=some (.bool false)/\(W.setCell ⟨w.heap.size,0,none⟩ (.slice ao kk cc)).frozen? ⟨w.heap.size+1,0,none⟩=false:=by simp only[World.cell?,World.frozen?,p1b,oF];exact⟨rfl,rfl⟩
    obtain⟨e0a,e0b⟩:=e0;obtain⟨e1a,e1b⟩:=e1;clear hseq;simp only[Exit.inBlock,Exit.then]
    gi_wp2
    have hne0:w.heap.size≠D:=by omega
    have hne1:w.heap.size+1≠D:=by omega
    obtain⟨W2,hW2⟩:∃ W2,W2=(W.setCell ⟨w.heap.size,0,none⟩ (.slice ao kk cc)).setCell ⟨w.heap.size+1,0,none⟩ (.bool true):=⟨_,rfl⟩
    rw[<-hW2]
    have ho:∀ k,k≠w.heap.size->k≠w.heap.size+1->W2.heap[k]? =W.heap[k]? :=λk k1 k2=>by rw[hW2,Vgk k2,Vgk k1]
    have hDk':W2.heap[D]? =some (.deferred (some [])):=(ho D (Ne.symm hne0) (Ne.symm hne1)).trans hDk
    have g0:W2.heap[w.heap.size]? =some (oV (.slice ao kk cc)):=by
      rw[hW2,Vgk kv];exact Vl4 (v:=.slice none 0 0) (v':=.slice ao kk cc) p0
    have g1:W2.heap[w.heap.size+1]? =some (.cells #[Value.bool true] 4 (0,0)):=by
      rw[hW2];exact Vl4 (v:=.bool false) (v':=.bool true) p1b
    have f0:(W2.putObj D (.deferred none)).cell? ⟨w.heap.size,0,none⟩=some (.slice ao kk cc):=by
      have:(W2.putObj D (.deferred none)).heap[w.heap.size]? =some (oV (.slice ao kk cc)):=(World.putObj_heap_other hne0).trans g0;simp only[World.cell?,this,oV];rfl
    have f1:(W2.putObj D (.deferred none)).cell? ⟨w.heap.size+1,0,none⟩=some (.bool true):=by
      have:=(World.putObj_heap_other (o:=.deferred none) hne1).trans g1;simp only[World.cell?,this];rfl
    have l0:=Vb0 (P:=Tryz.prog) (t:=40) kx f0
    have l1:=Vb0 (P:=Tryz.prog) (t:=4) kx f1
    have hb2:Below w.heap.size w W2:=by rw[hW2];exact(hbl.setCell (p:=⟨w.heap.size,0,none⟩) (Zl _) _).setCell (p:=⟨w.heap.size+1,0,none⟩) ku _
    refine⟨by simp,.inl ⟨D,_,rfl,run_takeDeferred hDk',.tuple #[.slice ao kk cc,.bool true],?_,?_,.inl ⟨hall,_,rfl,?_⟩⟩⟩
    · simp only[results,show Tryz.f189.results=#[.cell 2 40,.cell 3 4]from rfl];simp[Sem.run_bind,asAddr,pt,l0,l1]
    · exact hb2.grown (grownBy_putObj' W2 D _) hb2.size (λk e=>by cases e;omega)
    · refine Vjb p5 kv (λg cur m hg hc=>?_)
      have hgD:g≠D:=λe=>by rw[e,hDk]at hc;cases hc
      rw[World.putObj_heap_other hgD,ho g kv kv]
  case stop=>
    rintro D c pre W hD ⟨qs,hq⟩ ⟨⟨⟨p0,p1⟩,hbl⟩,rfl,x,hx,hxf⟩ hDk;refine wpIn_ret ?_
    have hne0:w.heap.size≠D:=by omega
    have hne1:w.heap.size+1≠D:=by omega
    have f0:(W.putObj D (.deferred none)).cell? ⟨w.heap.size,0,none⟩=some (.slice none 0 0):=by
      have:(W.putObj D (.deferred none)).heap[w.heap.size]? =some (oV (.slice none 0 0)):=(World.putObj_heap_other hne0).trans p0;simp only[World.cell?,this,oV];rfl
    have f1:(W.putObj D (.deferred none)).cell? ⟨w.heap.size+1,0,none⟩=some (.bool false):=by
      have:(W.putObj D (.deferred none)).heap[w.heap.size+1]? =some oF:=(World.putObj_heap_other hne1).trans p1;simp only[World.cell?,this,oF];rfl
    have l0:=Vb0 (P:=Tryz.prog) (t:=40) kx f0
    have l1:=Vb0 (P:=Tryz.prog) (t:=4) kx f1;refine⟨by simp,.inl ⟨D,_,rfl,run_takeDeferred hDk,.tuple #[.slice none 0 0,.bool false],?_,?_,.inr ⟨⟨x,by rw[<-hq];exact List.mem_append_left _ hx,hxf⟩,rfl⟩⟩⟩
    · simp only[results,show Tryz.f189.results=#[.cell 2 40,.cell 3 4]from rfl];simp[Sem.run_bind,asAddr,pt,l0,l1]
    · exact hbl.grown (grownBy_putObj' W D _) hbl.size (λk e=>by cases e;omega)
end Go.Proofs.YthbpjmogdonlkaaGreatDoor
namespace Go.Proofs.YthbpjmogdonlkaaGreatDoor
open Go Go.Eng Go.RowKit Go.Shelf
theorem step_belowU{G:Gh}{w w':World}(hw:Wf G w)(h:Below w.heap.size w w')(g n:Nat)(hg:w.heap.size<=g)(hg2:g<w'.heap.size):
  Step G w {G with U:=λx=>if x=g then n else G.U x} w'/\Wf {G with U:=λx=>if x=g then n else G.U x} w'/\∀ κ,Keep G w {G with U:=λx=>if x=g then n else G.U x} w' κ:=by
 obtain⟨s1,s2,s3⟩:=Vc0 hw h
 have hz:G.U g=0:=hw.zero g hg
 have hk:∀ κ,Keep G w {G with U:=λx=>if x=g then n else G.U x} w' κ:=λκ=>⟨rfl,λb hb=>⟨h.block b (hw.lt κ b hb),by
  have:=hw.lt κ b hb;simp only
  rw[if_neg kv]⟩⟩
 refine⟨⟨⟨λb=>?_,s1.toExt.imm,s1.toExt.size,s1.toExt.os,s1.toExt.tape,s1.toExt.output,λ_ _=>rfl,λ_=>Zl _,λκ _ _=>hk κ⟩,λb hb _=>⟨h.block b hb,?_⟩,λκ b hb=>.inl ⟨κ,hb⟩⟩,⟨s2.inj,s2.lt,λb hb=>?_⟩,hk⟩
 ·simp only
  split
  ·rename_i e;rw[e,hz];exact Nat.zero_le _
  ·exact Zl _
 ·simp only;rw[if_neg kv]
 ·simp only;rw[if_neg kv];exact s2.zero b hb
theorem citR(U:Nat->Nat)(w:World)(c:DCited):Rep U w (Vbj c) (citV c):=by
 refine⟨_,rfl,⟨_,_,rfl,⟨rfl,rfl⟩,_,_,rfl,⟨rfl,rfl⟩,_,_,rfl,⟨rfl,rfl⟩,_,_,rfl,⟨rfl,rfl⟩,rfl⟩,?_⟩;intro x hx;simp only[Zb,List.not_mem_nil,or_false]at hx;rcases hx with rfl|rfl|rfl|rfl <;>rfl
theorem citRs(U:Nat->Nat)(w:World):∀(l:List DCited),RepL U w (l.map Vbj) (l.map citV)
 |[]=>rfl
 |c::l=>⟨_,_,rfl,citR U w c,citRs U w l⟩
theorem citVs:∀(l:List DCited),Va1 (l.map citV)=l.flatMap citL
 |[]=>rfl
 |c::l=>by
  have:=citVs l;simp only[Va1,List.map_cons,List.flatMap_cons]at this ⊢;rw[this];rfl
def ctsG(s:ByteArray):List DCited×Bool:=cond (ctnG s CTN) ([],false) (cond ((prt s).all (λx=>(citF x).2)) (cuts (prt s),true) ([],false))
theorem ctsG_to(s:ByteArray)(hs:s.size<=1073741824):Va2 Tryz.prog 189 [jS s] [] [] (.av (.tup [.sl ((ctsG s).1.map Vbj),vB (ctsG s).2])) [] []:=by
 unfold ctsG;cases h:ctnG s CTN with
 |true=>
  have hc:=ctnN_to s hs;refine bG Tryz.func189 ?_;refine gO (tn 3 (kc hc (kb h (tn 2 z)))) ?_;exact eN
 | false=>
  simp only[cond_false];refine⟨⟨Tryz.f189,Tryz.func189,by kernel_rfl,by kernel_rfl⟩,λG w us hw hr _ _=>?_⟩;rw[args1 hr];refine(callsIn_wide.1 (cts_calls s hs h w)).mono ?_;rintro e w' ⟨hb,⟨hall,v,rfl,hown⟩|⟨⟨x,hx,hxf⟩,rfl⟩⟩
  ·have ha:(prt s).all (λx=>(citF x).2)=true:=List.all_eq_true.2 hall;rw[ha];simp only[cond_true]
   have hl:(cuts (prt s)).length=(prt s).length:=by simp[cuts]
   rcases hown.2 with⟨rfl,h0⟩|⟨g,cap,cur,rfl,hg,hc,hcap,hml,hsz,htk⟩
   ·obtain⟨s1,s2,s3⟩:=Vc0 hw hb
    have hnil:cuts (prt s)=[]:=List.length_eq_zero_iff.1 (by rw[hl];exact h0);rw[hnil];exact⟨_,G,rfl,s1,s2,⟨_,rfl,⟨_,_,rfl,Vf2 _ _,_,_,rfl,⟨rfl,rfl⟩,rfl⟩⟩,by simp,λi _=>s3 _,λ_ _=>rfl,λκ=>rfl⟩
   ·have hg2:g<w'.heap.size:=(Zd.1 hc).1;obtain⟨s1,s2,s3⟩:=step_belowU hw hb g ((prt s).length*4) hg hg2
    have hvc:Va1 ((cuts (prt s)).map citV)=cutC (prt s):=citVs _;refine⟨_,_,rfl,s1,s2,⟨_,rfl,⟨_,_,rfl,⟨some ⟨g,0,none⟩,cap,(cuts (prt s)).map citV,4,by rw[Zh,hl],citRs _ _ _,?_,λh=>by simp at h,by rw[Zh,hl];exact hcap,λ_ ad h=>by simp at h;subst h;rfl,.inr ⟨g,0,rfl,?_,λj x hx=>?_⟩⟩,_,_,rfl,⟨rfl,rfl⟩,rfl⟩⟩,by simp,λi _=>s3 _,λ_ _=>rfl,λκ=>rfl⟩
    ·intro e he;obtain⟨c,_,rfl⟩:=List.mem_map.1 he;rfl
    ·rw[hvc,hown.1];simp
    ·rw[hvc]at hx
     have hlt:j<(prt s).length*4:=by rw[<-hown.1];exact(List.getElem?_eq_some_iff.1 hx).1
     rw[<-htk,List.getElem?_take,if_pos hlt]at hx;refine⟨?_,?_⟩
     ·simp only[World.cell?,hc,Nat.zero_add];simpa using hx
     ·rw[<-htk]at hvc
      have hm:x∈(cuts (prt s)).flatMap citL:=by
       rw[<-citVs,hvc];exact List.mem_of_getElem? (by rw[List.getElem?_take,if_pos hlt];exact hx)
      obtain⟨c,_,hxc⟩:=List.mem_flatMap.1 hm;simp only[citL,Zb,List.not_mem_nil,or_false]at hxc;rcases hxc with rfl|rfl|rfl|rfl <;>rfl
  ·have ha:(prt s).all (λx=>(citF x).2)=false:=by
    rw[Bool.eq_false_iff];intro ht
    have:=List.all_eq_true.1 ht x hx;rw[hxf]at this;cases this
   rw[ha];simp only[cond_false];obtain⟨s1,s2,s3⟩:=Vc0 hw hb;exact⟨_,G,rfl,s1,s2,⟨_,rfl,⟨_,_,rfl,Vf2 _ _,_,_,rfl,⟨rfl,rfl⟩,rfl⟩⟩,by simp,λi _=>s3 _,λ_ _=>rfl,λκ=>rfl⟩
end Go.Proofs.YthbpjmogdonlkaaGreatDoor
namespace Go.Proofs.YthbpjmogdonlkaaGreatDoor
open Go Go.Eng
def cteG(s:ByteArray)(i:Int):(DInline×Int):=cond (cond (decide ((idxA (ByteArray.extract s (Int.toNat (i+1)) (Za s)) (⟨#[91,93]⟩):Int)<0)) true (((byt s (Int.toNat ((i+1)+(idxA (ByteArray.extract s (Int.toNat (i+1)) (Za s)) (⟨#[91,93]⟩)))):Nat):Int) !=93)) (DInline.mk 0 (⟨#[]⟩) (⟨#[]⟩) (⟨#[]⟩) (DAttr.mk (⟨#[]⟩) ([]) ([])) ([]) ([]) ([]),0) (cond (!(ctsG (ByteArray.extract s (Int.toNat (i+1)) (Int.toNat ((i+1)+(idxA (ByteArray.extract s (Int.toNat (i+1)) (Za s)) (⟨#[91,93]⟩)))))).2) (DInline.mk 0 (⟨#[]⟩) (⟨#[]⟩) (⟨#[]⟩) (DAttr.mk (⟨#[]⟩) ([]) ([])) ([]) ([]) ([]),0) (DInline.mk 13 (⟨#[]⟩) (⟨#[]⟩) (⟨#[]⟩) (DAttr.mk (⟨#[]⟩) ([]) ([])) ([]) ((ctsG (ByteArray.extract s (Int.toNat (i+1)) (Int.toNat ((i+1)+(idxA (ByteArray.extract s (Int.toNat (i+1)) (Za s)) (⟨#[91,93]⟩)))))).1) ([]),(i+(idxA (ByteArray.extract s (Int.toNat (i+1)) (Za s)) (⟨#[91,93]⟩)))+2))
theorem cteG_to(s:ByteArray)(i:Int)(hs:s.size<=1073741824)(h0:0<=i)(h1:i<s.size):Va2 Tryz.prog 142 [(jS s),(jI i)] [] [] (.av (.tup [(Vap ((cteG s i).1)),(vI ((cteG s i).2))])) [] []:=by
 refine BEG (λr:(DInline×Int)=>(.av (.tup [(Vap r.1),(vI r.2)]))) (cteG s i) Tryz.func142 kx ?_;refine UF (cteG.eq_1 ..) ?_
 have:=Vag s (Int.toNat (i+1)) (Za s)
 have:=Vkp (ByteArray.extract s (Int.toNat (i+1)) (Za s)) (⟨#[91,93]⟩);refine gO (tn 4 (kn (wrE (i+1) (i+1) kv) (kp (show 0<=(i+1:Int)/\(i+1:Int)<=((Za s:Nat):Int)/\((Za s:Nat):Int)<=((Za s:Nat):Int)from(by first|omega|(simp only[Va6,true_and];omega))) (kc (idxG_to (ByteArray.extract s (Int.toNat (i+1)) (Za s)) (⟨#[91,93]⟩) ky ky (by first|decide|assumption) (by first|assumption|exact A7.lit gj)) (tn 4 (kj (decide ((idxA (ByteArray.extract s (Int.toNat (i+1)) (Za s)) (⟨#[91,93]⟩):Int)<0)) z (tn 2 (hn (λh=>by have j0:=h.2;have j0p:=of_decide_eq_false j0;exact(wrE (i+1) (i+1) kv)) (tn 1 (hn (λh=>by have j0:=h.2;have j0p:=of_decide_eq_false j0;exact(wrE ((i+1)+(idxA (ByteArray.extract s (Int.toNat (i+1)) (Za s)) (⟨#[91,93]⟩))) ((i+1)+(idxA (ByteArray.extract s (Int.toNat (i+1)) (Za s)) (⟨#[91,93]⟩))) kv)) (hp (λh=>by have j0:=h.2;have j0p:=of_decide_eq_false j0;exact(ib s ((i+1)+(idxA (ByteArray.extract s (Int.toNat (i+1)) (Za s)) (⟨#[91,93]⟩))) kv)) (tn 1 z)))))) z)))))) ?_;refine CS (λh1=>?_) (λh1=>?_)
 ·refine gO (kb h1 (tn 3 z)) ?_;exact EN kx
 ·obtain⟨h1a,h1o⟩:=Vae h1
  have h1ap:=of_decide_eq_false h1a
  have h1op:=Vah h1o
  have:=Vag s (Int.toNat (i+1)) (Int.toNat ((i+1)+(idxA (ByteArray.extract s (Int.toNat (i+1)) (Za s)) (⟨#[91,93]⟩))));refine gO (kb h1 (tn 2 (kn (wrE (i+1) (i+1) kv) (tn 1 (kn (wrE (i+1) (i+1) kv) (tn 1 (kn (wrE ((i+1)+(idxA (ByteArray.extract s (Int.toNat (i+1)) (Za s)) (⟨#[91,93]⟩))) ((i+1)+(idxA (ByteArray.extract s (Int.toNat (i+1)) (Za s)) (⟨#[91,93]⟩))) kv) (kp (show 0<=(i+1:Int)/\(i+1:Int)<=(i+1)+(idxA (ByteArray.extract s (Int.toNat (i+1)) (Za s)) (⟨#[91,93]⟩))/\(i+1)+(idxA (ByteArray.extract s (Int.toNat (i+1)) (Za s)) (⟨#[91,93]⟩))<=((Za s:Nat):Int)from(by first|omega|(simp only[Va6,true_and];omega))) (kc (ctsG_to (ByteArray.extract s (Int.toNat (i+1)) (Int.toNat ((i+1)+(idxA (ByteArray.extract s (Int.toNat (i+1)) (Za s)) (⟨#[91,93]⟩))))) ky) (tn 7 z)))))))))) ?_;refine CS (λh2=>?_) (λh2=>?_)
  ·have h2n:=nott h2;refine gO (kb h2 (tn 3 z)) ?_;exact EN kx
  ·have h2n:=notf h2;refine gO (kb h2 (tn 4 (kn (wrE (i+(idxA (ByteArray.extract s (Int.toNat (i+1)) (Za s)) (⟨#[91,93]⟩))) (i+(idxA (ByteArray.extract s (Int.toNat (i+1)) (Za s)) (⟨#[91,93]⟩))) kv) (kn (wrE ((i+(idxA (ByteArray.extract s (Int.toNat (i+1)) (Za s)) (⟨#[91,93]⟩)))+2) ((i+(idxA (ByteArray.extract s (Int.toNat (i+1)) (Za s)) (⟨#[91,93]⟩)))+2) kv) (tn 2 z))))) ?_;exact EN kx
def TB(s:ByteArray)(r:ByteArray×Int×Bool):Prop:=0<=r.2.1/\r.2.1<=s.size/\(r.1.size:Int)<=s.size
theorem TB0(s:ByteArray):TB s (⟨#[]⟩,0,false):=⟨Zp 0,Int.natCast_nonneg _,Int.natCast_nonneg _⟩
theorem TBe(s:ByteArray)(a b:Nat)(j:Int)(h0:0<=j)(h1:j<=s.size):TB s (uneS (ByteArray.extract s a b),j,true):=by
 refine⟨h0,h1,?_⟩
 have h2:=Vjr (ByteArray.extract s a b);rw[ByteArray.size_extract]at h2
 show((uneS (ByteArray.extract s a b)).size:Int)<=s.size;omega
theorem Vim(s:ByteArray)(i:Int):∀(n:Nat)(v:Int),0<=v->TB s (angS_L0 s i n v)
 |0,v,_=>⟨Zp 0,Int.natCast_nonneg _,Int.natCast_nonneg _⟩
 |n+1,v,h=>by
  rw[angS_L0];refine Va5 (TB s) (λq=>?_) (λ_=>TB0 s)
  have q:=of_decide_eq_true q;refine Va5 (TB s) (λ_=>Vim s i n _ kv) (λ_=>Va5 (TB s) (λ_=>TBe s _ _ _ kv kv) (λ_=>Va5 (TB s) (λ_=>TB0 s) (λ_=>Vim s i n _ kv)))
theorem Vi6(s:ByteArray)(i last:Int):∀(n:Nat)(v:Int),0<=v->TB s (quoS_L0 s i last n v)
 |0,v,_=>⟨Zp 0,Int.natCast_nonneg _,Int.natCast_nonneg _⟩
 |n+1,v,h=>by
  rw[quoS_L0];refine Va5 (TB s) (λq=>?_) (λ_=>TB0 s)
  have q:=of_decide_eq_true q;refine Va5 (TB s) (λ_=>Vi6 s i last n _ kv) (λ_=>Va5 (TB s) (λ_=>TBe s _ _ _ kv kv) (λ_=>Va5 (TB s) (λ_=>TB0 s) (λ_=>Vi6 s i last n _ kv)))
theorem Vmc(s:ByteArray)(i:Int):∀(n:Nat)(w v:Int),0<=v->v<=s.size->TB s (dstG_L0 s i n w v)
 |0,w,v,_,_=>⟨Zp 0,Int.natCast_nonneg _,Int.natCast_nonneg _⟩
 |n+1,w,v,h,h1=>by
  rw[dstG_L0];refine Va5 (TB s) (λq=>?_) (λ_=>Va5 (TB s) (λ_=>TB0 s) (λ_=>TBe s _ _ _ h h1))
  have q:=of_decide_eq_true q
  have hb:=Vih s v ⟨h,q⟩;refine Va5 (TB s) (λ_=>Va5 (TB s) (λ_=>TB0 s) (λ_=>TBe s _ _ _ h h1)) (λ_=>Va5 (TB s) (λ_=>TB0 s) (λ_=>Vmc s i n _ _ kv kv))
theorem angS_bd(s:ByteArray)(i:Int)(h:0<=i):TB s (angS s i):=Vim s i _ _ kv
theorem quoS_bd(s:ByteArray)(i last:Int)(h:0<=i):TB s (quoS s i last):=Vi6 s i last _ _ kv
theorem dstG_bd(s:ByteArray)(i:Int)(h:0<=i):TB s (dstG s i):=by
 unfold dstG;refine Va5 (TB s) (λ_=>TB0 s) (λq=>?_);obtain⟨q1,q2⟩:=Vae q
 have q2:=of_decide_eq_false q2;exact Va5 (TB s) (λ_=>angS_bd s i h) (λ_=>Vmc s i _ _ _ h kv)
theorem titM_bd(s:ByteArray)(i:Int)(h:0<=i):TB s (titM s i):=by
 unfold titM;exact Va5 (TB s) (λ_=>quoS_bd s i _ h) (λ_=>Va5 (TB s) (λ_=>quoS_bd s i _ h) (λ_=>TB0 s))
def tlM(s:ByteArray)(i:Int):(ByteArray×ByteArray×ByteArray×Int×Bool):=cond (cond (decide ((i:Int)<0)) true (decide ((i:Int)>=((Za s:Nat):Int)))) (⟨#[]⟩,⟨#[]⟩,⟨#[]⟩,0,false) (cond (((byt s (Int.toNat i):Nat):Int) !=40) (⟨#[]⟩,⟨#[]⟩,(brkM s i).1,(brkM s i).2.1,(brkM s i).2.2) (cond (cond (decide ((skpL s (i+1):Int)<((Za s:Nat):Int))) (((byt s (Int.toNat (skpL s (i+1))):Nat):Int)==41) false) (⟨#[]⟩,⟨#[]⟩,⟨#[]⟩,(skpL s (i+1))+1,true) (cond (!(dstG s (skpL s (i+1))).2.2) (⟨#[]⟩,⟨#[]⟩,⟨#[]⟩,0,false) (cond (cond (cond (decide ((skpL s ((dstG s (skpL s (i+1))).2.1):Int)<((Za s:Nat):Int))) (((byt s (Int.toNat (skpL s ((dstG s (skpL s (i+1))).2.1))):Nat):Int) !=41) false) (decide ((skpL s ((dstG s (skpL s (i+1))).2.1):Int)>(dstG s (skpL s (i+1))).2.1)) false) (cond (!(titM s (skpL s ((dstG s (skpL s (i+1))).2.1))).2.2) (⟨#[]⟩,⟨#[]⟩,⟨#[]⟩,0,false) (cond (cond (decide ((skpL s ((titM s (skpL s ((dstG s (skpL s (i+1))).2.1))).2.1):Int)>=((Za s:Nat):Int))) true (((byt s (Int.toNat (skpL s ((titM s (skpL s ((dstG s (skpL s (i+1))).2.1))).2.1))):Nat):Int) !=41)) (⟨#[]⟩,⟨#[]⟩,⟨#[]⟩,0,false) ((dstG s (skpL s (i+1))).1,(titM s (skpL s ((dstG s (skpL s (i+1))).2.1))).1,⟨#[]⟩,(skpL s ((titM s (skpL s ((dstG s (skpL s (i+1))).2.1))).2.1))+1,true))) (cond (cond (decide ((skpL s ((dstG s (skpL s (i+1))).2.1):Int)>=((Za s:Nat):Int))) true (((byt s (Int.toNat (skpL s ((dstG s (skpL s (i+1))).2.1))):Nat):Int) !=41)) (⟨#[]⟩,⟨#[]⟩,⟨#[]⟩,0,false) ((dstG s (skpL s (i+1))).1,⟨#[]⟩,⟨#[]⟩,(skpL s ((dstG s (skpL s (i+1))).2.1))+1,true))))))
theorem tlM_to(s:ByteArray)(i:Int)(hs:s.size<=100000000)(h0:0<=i)(h1:i<=1073741833):Va2 Tryz.prog 194 [(jS s),(jI i)] [] [] (.av (.tup [(vS ((tlM s i).1)),(vS ((tlM s i).2.1)),(vS ((tlM s i).2.2.1)),(vI ((tlM s i).2.2.2.1)),(vB ((tlM s i).2.2.2.2))])) [] []:=by
 refine BEG (λr:(ByteArray×ByteArray×ByteArray×Int×Bool)=>(.av (.tup [(vS r.1),(vS r.2.1),(vS r.2.2.1),(vI r.2.2.2.1),(vB r.2.2.2.2)]))) (tlM s i) Tryz.func194 kx ?_;refine UF (tlM.eq_1 ..) ?_;refine gO (tn 8 (kj (decide ((i:Int)<0)) z (tn 4 z) z)) ?_;refine CS (λh1=>?_) (λh1=>?_)
 ·refine gO (kb h1 (tn 5 z)) ?_;exact EN kx
 ·obtain⟨h1a,h1o⟩:=Vae h1
  have h1ap:=of_decide_eq_false h1a
  have h1op:=of_decide_eq_false h1o;refine gO (kb h1 (tn 2 (kp (ib s i kv) (tn 1 z)))) ?_;refine CSn (λh2p h2=>?_) (λh2p h2=>?_)
  ·refine gO (kb h2 (tn 2 (kc (brkM_to s i ky ky ky) (tn 15 z)))) ?_;exact EN kx
  ·have:=Vi0 s (i+1) gk;refine gO (kb h2 (tn 2 (kn (wrE (i+1) (i+1) kv) (kc (skpL_to s (i+1) ky ky ky) (tn 6 (kj (decide ((skpL s (i+1):Int)<((Za s:Nat):Int))) (tn 2 (hp (λh=>by have j0:=h.2;have j0p:=of_decide_eq_true j0;exact(ib s (skpL s (i+1)) kv)) (tn 1 z))) z z)))))) ?_;refine CS (λh3=>?_) (λh3=>?_)
   ·obtain⟨h3a,h3o⟩:=Va9 h3
    have h3ap:=of_decide_eq_true h3a
    have h3op:=eq_of_beq h3o;refine gO (kb h3 (tn 1 (kn (wrE ((skpL s (i+1))+1) ((skpL s (i+1))+1) kv) (tn 5 z)))) ?_;exact EN kx
   ·have:=dstG_bd s (skpL s (i+1)) kv;unfold TB at this;refine gO (kb h3 (tn 2 (kc (dstG_to s (skpL s (i+1)) ky ky ky) (tn 9 z)))) ?_;refine CS (λh4=>?_) (λh4=>?_)
    ·have h4n:=nott h4;refine gO (kb h4 (tn 5 z)) ?_;exact EN kx
    ·have h4n:=notf h4
     have:=Vi0 s ((dstG s (skpL s (i+1))).2.1) gk;refine gO (kb h4 (tn 2 (kc (skpL_to s ((dstG s (skpL s (i+1))).2.1) ky ky ky) (tn 6 (kj (decide ((skpL s ((dstG s (skpL s (i+1))).2.1):Int)<((Za s:Nat):Int))) (tn 2 (hp (λh=>by have j0:=h.2;have j0p:=of_decide_eq_true j0;exact(ib s (skpL s ((dstG s (skpL s (i+1))).2.1)) kv)) (tn 1 z))) z (tn 1 (kj (cond (decide ((skpL s ((dstG s (skpL s (i+1))).2.1):Int)<((Za s:Nat):Int))) (((byt s (Int.toNat (skpL s ((dstG s (skpL s (i+1))).2.1))):Nat):Int) !=41) false) (tn 3 z) z z))))))) ?_;refine CS (λh5=>?_) (λh5=>?_)
     ·obtain⟨h5a,h5o⟩:=Va9 h5;obtain⟨h5aa,h5ao⟩:=Va9 h5a
      have h5aap:=of_decide_eq_true h5aa
      have h5aop:=bne_iff_ne.1 h5ao
      have h5op:=of_decide_eq_true h5o
      have:=titM_bd s (skpL s ((dstG s (skpL s (i+1))).2.1)) kv;unfold TB at this;refine gO (kb h5 (tn 2 (kc (titM_to s (skpL s ((dstG s (skpL s (i+1))).2.1)) ky ky ky) (tn 9 z)))) ?_;refine CS (λh6=>?_) (λh6=>?_)
      ·have h6n:=nott h6;refine gO (kb h6 (tn 5 z)) ?_;exact EN kx
      ·have h6n:=notf h6
       have:=Vi0 s ((titM s (skpL s ((dstG s (skpL s (i+1))).2.1))).2.1) gk;refine gO (kb h6 (tn 2 (kc (skpL_to s ((titM s (skpL s ((dstG s (skpL s (i+1))).2.1))).2.1) ky ky ky) (tn 6 (kj (decide ((skpL s ((titM s (skpL s ((dstG s (skpL s (i+1))).2.1))).2.1):Int)>=((Za s:Nat):Int))) z (tn 2 (hp (λh=>by have j0:=h.2;have j0p:=of_decide_eq_false j0;exact(ib s (skpL s ((titM s (skpL s ((dstG s (skpL s (i+1))).2.1))).2.1)) kv)) (tn 1 z))) z))))) ?_;refine CS (λh7=>?_) (λh7=>?_)
       ·refine gO (kb h7 (tn 5 z)) ?_;exact EN kx
       ·obtain⟨h7a,h7o⟩:=Vae h7
        have h7ap:=of_decide_eq_false h7a
        have h7op:=Vah h7o;refine gO (kb h7 (tn 3 (kn (wrE ((skpL s ((titM s (skpL s ((dstG s (skpL s (i+1))).2.1))).2.1))+1) ((skpL s ((titM s (skpL s ((dstG s (skpL s (i+1))).2.1))).2.1))+1) kv) (tn 5 z)))) ?_;exact EN kx
     ·refine gO (kb h5 (tn 5 (kj (decide ((skpL s ((dstG s (skpL s (i+1))).2.1):Int)>=((Za s:Nat):Int))) z (tn 2 (hp (λh=>by have j0:=h.2;have j0p:=of_decide_eq_false j0;exact(ib s (skpL s ((dstG s (skpL s (i+1))).2.1)) kv)) (tn 1 z))) z))) ?_;refine CS (λh8=>?_) (λh8=>?_)
      ·refine gO (kb h8 (tn 5 z)) ?_;exact EN kx
      ·obtain⟨h8a,h8o⟩:=Vae h8
       have h8ap:=of_decide_eq_false h8a
       have h8op:=Vah h8o;refine gO (kb h8 (tn 3 (kn (wrE ((skpL s ((dstG s (skpL s (i+1))).2.1))+1) ((skpL s ((dstG s (skpL s (i+1))).2.1))+1) kv) (tn 5 z)))) ?_;exact EN kx
theorem Vm2(s:ByteArray)(i:Int)(h0:0<=i)(h1:i<s.size)(hw:1<=wdtI ((byt s (Int.toNat i):Nat):Int)/\wdtI ((byt s (Int.toNat i):Nat):Int)<=s.size-i):∀(n:Nat)(v:Int)(k:Nat),k<=3->4-k<n->1<=(nxtN_L0 s i n v k).2/\i+(nxtN_L0 s i n v k).2<=s.size
 |0,v,k,h,h2=>by omega
 |n+1,v,k,h,h2=>by
  rw[nxtN_L0]
  have hb:=wdtI_bd ((byt s (Int.toNat i):Nat):Int);refine Va5 (λr:Int×Int=>1<=r.2/\i+r.2<=s.size) (λq=>?_) (λ_=>by simp only;omega)
  have q:=of_decide_eq_true q;exact Va5 (λr:Int×Int=>1<=r.2/\i+r.2<=s.size) (λ_=>by simp only;omega) (λ_=>Vm2 s i h0 h1 hw n _ (k+1) kv kv)
theorem Vct(s:ByteArray)(i:Int)(h0:0<=i)(h1:i<s.size):1<=(nxtN s i).2/\i+(nxtN s i).2<=s.size:=by
 unfold nxtN
 have hb:=wdtI_bd ((byt s (Int.toNat i):Nat):Int);refine Va5 (λr:Int×Int=>1<=r.2/\i+r.2<=s.size) (λq=>?_) (λ_=>?_)
 ·rcases cond_or2 q with q|q <;>(have:=of_decide_eq_true q;omega)
 refine Va5 (λr:Int×Int=>1<=r.2/\i+r.2<=s.size) (λ_=>by simp only;omega) (λq=>?_);obtain⟨q1,q2⟩:=Vae q
 have q1:=ne_of_beq_false q1
 have q2:=of_decide_eq_false q2;refine Va5 (λr:Int×Int=>1<=r.2/\i+r.2<=s.size) (λ_=>by simp only;omega) (λ_=>?_);refine Va5 (λr:Int×Int=>1<=r.2/\i+r.2<=s.size) (λ_=>by simp only;omega) (λ_=>?_);exact Vm2 s i h0 h1 kv _ _ 0 kv kv
theorem nxtN_bdc(s:ByteArray)(i:Int):0<=i/\i<s.size->1<=(nxtN s i).2/\i+(nxtN s i).2<=s.size:=λh=>Vct s i h.1 h.2
def valG_L0(s:ByteArray):Nat->Int->Bool
 |0,_=>default
 |n0+1,v3=>cond (decide ((v3:Int)<((Za s:Nat):Int))) (cond (cond (cond (((nxtN s v3).1:Int)==65533) (((nxtN s v3).2:Int)==1) false) true (uncB ((nxtN s v3).1))) false (valG_L0 s n0 (v3+((nxtN s v3).2)))) true
def valG(s:ByteArray):Bool:=valG_L0 s ((s.size-Int.toNat 0)+1) 0
theorem valG_to(s:ByteArray)(hs:s.size<=1073741824):Va2 Tryz.prog 170 [(jS s)] [] [] (jB (valG s)) [] []:=by
 refine BEG (λr:Bool=>(jB r)) (valG s) Tryz.func170 kx ?_;refine UF (valG.eq_1 ..) ?_;refine gO (tn 2 z) ?_;refine LP (λN M S=>∃ v3:Int,(0<=v3/\v3<=s.size)/\(s.size-Int.toNat v3<N)/\M=valG_L0 s N v3/\S=(sx 29 [(0,(jS s)),(3,(jI v3))] [] [])) kx ⟨_,by first|omega|assumption|(simp only[Va6];omega)|(simp;done)|(simp;omega),by omega,rfl,rfl⟩ (WK kx) ?_;rintro n0 M S ⟨v3,hv,hF0,rfl,rfl⟩;obtain⟨n0,rfl⟩:∃ k,n0=k+1:=⟨n0-1,by omega⟩
 refine UF (valG_L0.eq_2 ..) ?_;refine gO (tn 4 z) ?_;refine CSd (λh1p h1=>?_) (λh1p h1=>?_)
 ·have:=nxtN_bdc s v3;refine gO (kb h1 (tn 2 (kc (Vcf s v3 ky ky ky) (tn 8 (kj (((nxtN s v3).1:Int)==65533) (tn 2 z) z (tn 1 (kj (cond (((nxtN s v3).1:Int)==65533) (((nxtN s v3).2:Int)==1) false) z (tn 1 (kc (uncB_to ((nxtN s v3).1)) z)) z))))))) ?_;refine CS (λh2=>?_) (λh2=>?_)
  ·refine gO (kb h2 (tn 1 z)) ?_;refine OUT z kx ?_;exact EN kx
  ·obtain⟨h2a,h2o⟩:=Vae h2;refine gO (kb h2 (tn 2 (kn (wrE (v3+((nxtN s v3).2)) (v3+((nxtN s v3).2)) kv) (tn 1 z)))) ?_;exact AG ⟨_,by first|omega|assumption|(simp only[Va6];omega)|(simp;done)|(simp;omega),by omega,rfl,rfl⟩ (WK kx) kx (Zf _)
 ·refine gO (kb h1 z) ?_;refine OUT (tn 1 z) kx ?_;exact EN kx
def clnG(s:ByteArray):Bool:=cond (valG s) (decide ((idxB s 10:Int)<0)) false
theorem clnG_to(s:ByteArray)(hs:s.size<=1073741824):Va2 Tryz.prog 175 [(jS s)] [] [] (jB (clnG s)) [] []:=by
 refine BEG (λr:Bool=>(jB r)) (clnG s) Tryz.func175 kx ?_;refine UF (clnG.eq_1 ..) ?_;refine gO (tn 2 (kc (valG_to s ky) (tn 1 (kj (valG s) (tn 1 (kc (Vko s 10) (tn 1 z))) z (tn 1 z))))) ?_;exact EN kx
def rdvN_L0(s:ByteArray)(i:Int):Nat->Int->ByteArray->(ByteArray×Int×Bool)
 |0,_,_=>default
 |n0+1,v8,vb7_1=>cond (decide ((v8:Int)<((Za s:Nat):Int))) (cond (((byt s (Int.toNat v8):Nat):Int)==34) (vb7_1,v8+1,clnG vb7_1) (cond (((byt s (Int.toNat v8):Nat):Int)==92) (cond (cond (decide ((v8+1:Int)>=((Za s:Nat):Int))) true (cond (((byt s (Int.toNat (v8+1)):Nat):Int) !=34) (((byt s (Int.toNat (v8+1)):Nat):Int) !=92) false)) (⟨#[]⟩,0,false) (rdvN_L0 s i n0 ((v8+1)+1) (ByteArray.push vb7_1 (u8 ((byt s (Int.toNat (v8+1)):Nat):Int))))) (rdvN_L0 s i n0 (v8+1) (ByteArray.push vb7_1 (u8 ((byt s (Int.toNat v8):Nat):Int)))))) (⟨#[]⟩,0,false)
def rdvN(s:ByteArray)(i:Int):(ByteArray×Int×Bool):=cond (cond (decide ((i:Int)>=((Za s:Nat):Int))) true (((byt s (Int.toNat i):Nat):Int) !=34)) (ByteArray.extract s (Int.toNat (min i ((Za s:Nat):Int))) (Int.toNat (wrdA s (min i ((Za s:Nat):Int)))),wrdA s (min i ((Za s:Nat):Int)),namA (ByteArray.extract s (Int.toNat (min i ((Za s:Nat):Int))) (Int.toNat (wrdA s (min i ((Za s:Nat):Int)))))) (rdvN_L0 s i ((s.size-Int.toNat (i+1))+1) (i+1) (⟨#[]⟩))
theorem rdvN_to(s:ByteArray)(i:Int)(hs:s.size<=1073741824)(h0:0<=i)(h1:i<=s.size)(hn:((byt s (Int.toNat i):Nat):Int)=34->((byt s (Int.toNat (i+1)):Nat):Int)≠34):Va2 Tryz.prog 283 [(jS s),(jI i)] [] [] (.av (.tup [(vS ((rdvN s i).1)),(vI ((rdvN s i).2.1)),(vB ((rdvN s i).2.2))])) [] []:=by
 refine BEG (λr:(ByteArray×Int×Bool)=>(.av (.tup [(vS r.1),(vI r.2.1),(vB r.2.2)]))) (rdvN s i) Tryz.func283 kx ?_;refine UF (rdvN.eq_1 ..) ?_;refine gO (tn 8 (kj (decide ((i:Int)>=((Za s:Nat):Int))) z (tn 2 (hp (λh=>by have j0:=h.2;have j0p:=of_decide_eq_false j0;exact(ib s i kv)) (tn 1 z))) z)) ?_;refine CS (λh1=>?_) (λh1=>?_)
 ·have:=Vjl s (min i ((Za s:Nat):Int)) gk
  have:=Vag s (Int.toNat (min i ((Za s:Nat):Int))) (Int.toNat (wrdA s (min i ((Za s:Nat):Int))));refine gO (kb h1 (tn 5 (kc (wrdA_to s (min i ((Za s:Nat):Int)) ky ky ky) (tn 7 (kp (show 0<=(min i ((Za s:Nat):Int):Int)/\(min i ((Za s:Nat):Int):Int)<=wrdA s (min i ((Za s:Nat):Int))/\wrdA s (min i ((Za s:Nat):Int))<=((Za s:Nat):Int)from(by first|omega|(simp only[Va6,true_and];omega))) (tn 4 (kc (Vic (ByteArray.extract s (Int.toNat (min i ((Za s:Nat):Int))) (Int.toNat (wrdA s (min i ((Za s:Nat):Int))))) ky) (tn 3 z)))))))) ?_;exact EN kx
 ·obtain⟨h1a,h1o⟩:=Vae h1
  have h1ap:=of_decide_eq_false h1a
  have h1op:=Vah h1o;refine gO (kb h1 (tn 1 (kq 6 z))) ?_;refine RT [(7,0,(.son 7)),(7,1,(.own (1300,6) 0 1 (Va8 (⟨#[]⟩))))] (ac (show(AV.val (.pointer none))=.val (.pointer none)from rfl) (ac (show(Va8 ⟨#[]⟩:List AV)=[]/\0<6/\(0:Nat)=0 from⟨rfl,by decide,rfl⟩) an)) kx ?_;refine gO (tn 1 (kn (wrE (i+1) (i+1) kv) (tn 1 z))) ?_;refine LP (λN M S=>∃ v8:Int,∃gvb7_1:Nat,∃vb7_1:ByteArray,(i+1<=v8/\v8<=s.size+1)/\(i+1<v8\/((byt s (Int.toNat v8):Nat):Int)≠34)/\((vb7_1.size:Int)<=v8-i-1/\(i+1<v8->0<vb7_1.size))/\(s.size-Int.toNat v8<N)/\M=rdvN_L0 s i N v8 vb7_1/\S=(sx 78 [(0,(jS s)),(7,(.ptr 7 0)),(8,(jI v8))] [(7,(.cells 80 [(.son 7),(.own (1300,6) gvb7_1 1 (Va8 vb7_1))]))] [((1300,6),gvb7_1)])) kx ⟨_,0,_,by omega,Or.inr (hn kv),⟨by have e0:(⟨#[]⟩:ByteArray).size=0:=rfl;omega,by omega⟩,by omega,rfl,rfl⟩ (WK kx) ?_;rintro n0 M S ⟨v8,gvb7_1,vb7_1,hv,hb,hz,hF0,rfl,rfl⟩;obtain⟨n0,rfl⟩:∃ k,n0=k+1:=⟨n0-1,by omega⟩
  refine UF (rdvN_L0.eq_2 ..) ?_;refine gO (tn 4 z) ?_;refine CSd (λh2p h2=>?_) (λh2p h2=>?_)
  ·refine gO (kb h2 (tn 2 (kp (ib s v8 kv) (tn 2 z)))) ?_;refine CSe (λh3p h3=>?_) (λh3p h3=>?_)
   ·refine gO (kb h3 (kg (Vaa (Vaf (7,0) (1000,0) rfl) (Vio (.son 1000) 1300 gvb7_1 vb7_1 kv kv)) (show(gvb7_1:Nat)=gvb7_1/\True from⟨rfl,trivial⟩) (tn 1 (kn (wrE (v8+1) (v8+1) kv) (kg (show Va2 Tryz.prog 38 [(.ptr 7 0)] [(7,(.cells 80 [(.son 7),(.av (.fz 5 (Va8 vb7_1)))]))] [] (jS vb7_1) [(7,(.cells 80 [(.son 7),(.av (.fz 5 (Va8 vb7_1)))]))] []from Vcq kx (Vaa (Vaf (7,0) (1000,0) rfl) (StringZ_to (.son 1000) vb7_1 kv kv))) trivial (kc (clnG_to vb7_1 ky) (tn 3 z))))))) ?_;refine OUT z kx ?_;exact EN kx
   ·refine gO (kb h3 (tn 2 z)) ?_;refine CSe (λh4p h4=>?_) (λh4p h4=>?_)
    ·refine gO (kb h4 (tn 1 (kn (wrE (v8+1) (v8+1) kv) (tn 6 (kj (decide ((v8+1:Int)>=((Za s:Nat):Int))) z (tn 2 (hp (λh=>by have j0:=h.2;have j0p:=of_decide_eq_false j0;exact(ib s (v8+1) kv)) (tn 2 (kj (((byt s (Int.toNat (v8+1)):Nat):Int) !=34) (tn 2 (hp (λh=>by have j0:=h.1.2;have j0p:=of_decide_eq_false j0;have j1:=h.2;have j1p:=bne_iff_ne.1 j1;exact(ib s (v8+1) kv)) (tn 1 z))) z z)))) z))))) ?_;refine CS (λh5=>?_) (λh5=>?_)
     ·refine gO (kb h5 (tn 3 z)) ?_;refine OUT z kx ?_;exact EN kx
     ·obtain⟨h5a,h5o⟩:=Vae h5
      have h5ap:=of_decide_eq_false h5a;refine gO (kb h5 (tn 2 (kp (ib s (v8+1) kv) (kg (Vaa (Vaf (7,0) (1000,0) rfl) (Vdw vb7_1 ((byt s (Int.toNat (v8+1)):Nat):Int) gvb7_1 ky (bytI_lt _ _))) (show(gvb7_1:Nat)=gvb7_1/\True from⟨rfl,trivial⟩) (tn 1 (kn (wrE ((v8+1)+1) ((v8+1)+1) kv) (tn 1 z))))))) ?_;exact AG ⟨_,gvb7_1+1,_,by omega,by omega,by rw[size_push];omega,by omega,rfl,rfl⟩ (WK kx) kx (Zf _)
    ·refine gO (kb h4 (tn 2 (kp (ib s v8 kv) (kg (Vaa (Vaf (7,0) (1000,0) rfl) (Vdw vb7_1 ((byt s (Int.toNat v8):Nat):Int) gvb7_1 ky (bytI_lt _ _))) (show(gvb7_1:Nat)=gvb7_1/\True from⟨rfl,trivial⟩) (tn 1 (kn (wrE (v8+1) (v8+1) kv) (tn 1 z))))))) ?_;exact AG ⟨_,gvb7_1+1,_,by omega,by omega,by rw[size_push];omega,by omega,rfl,rfl⟩ (WK kx) kx (Zf _)
  ·refine gO (kb h2 z) ?_;refine OUT (tn 3 z) kx ?_;exact EN kx
end Go.Proofs.YthbpjmogdonlkaaGreatDoor
namespace Go.Proofs.YthbpjmogdonlkaaGreatDoor
open Go Go.Eng
def encQ(r:DPiece×Bool):SV:=.av (.tup [Vbo r.1,vB r.2])
def fdR(x:DInline×Int)(r:DPiece×Bool):DPiece×Bool:=cond (decide (x.2>0)) (DPiece.mk 0 x.1 ⟨#[]⟩ 0 false false false 0 x.2,false) r
def nxR(s:ByteArray)(i:Int):DPiece×Bool:=(litP s i (i+(nxtN s i).2),true)
def zI7:Nat×ABox:=(7,.cells 42 [jI 0,jS ⟨#[]⟩,jS ⟨#[]⟩,jS ⟨#[]⟩,jS ⟨#[]⟩,.nil,.nil,.nil,.nil,.nil])
theorem fA(x:DInline)(e:Int):Va2 Tryz.prog 131 [.av (Vap x),jI e,.ptr 7 0,.ptr 8 0] [(8,.cells 3 [jI 0]),zI7] [] (jB (decide (e>0))) [(7,.cells 42 (Vgl x)),(8,.cells 3 [jI e])] []:=
 Vgu (Vcq kx (Vaa (Vaf (7,0) (1000,0) rfl) (Vaa (Vaf (8,0) (1001,0) rfl) (fnd0_to x e 0))))
theorem fB(y x:DInline)(z e:Int):Va2 Tryz.prog 131 [.av (Vap x),jI e,.ptr 7 0,.ptr 8 0] [(8,.cells 3 [jI z]),(7,.cells 42 (Vgl y))] [] (jB (decide (e>0))) [(7,.cells 42 (Vgl x)),(8,.cells 3 [jI e])] []:=
 Vgu (Vcq kx (Vaa (Vaf (7,0) (1000,0) rfl) (Vaa (Vaf (8,0) (1001,0) rfl) (fnd1_to y x e z))))
section
variable (s:ByteArray) (ka:List Int) (la:List (List Int)) (kd:List Int) (ld:List (List Int)) (m i:Int)
theorem pc92(hs:s.size<=1073741824)(h0:0<=i)(h1:i<s.size)(hta:TkOk s la)(htd:TkOk s ld)(q92:(BYi s i==92)=true):Va2 Tryz.prog 90 [.av (rdV s ka la kd ld),jI i] [glM m] [] (encQ (fdR (bslP s i) (nxR s i))) [glM m] []:=by
 have hib:=ib s i ⟨h0,h1⟩
 have hNx:=Vcf s i hs h0 kv
 have nb:=Vct s i h0 h1
 have wn:=wrE (i+(nxtN s i).2) (i+(nxtN s i).2) kv
 have hLt:=Vci s i (i+(nxtN s i).2) hs h0 kv kv
 have k:=bslP_to s i hs h0 h1;refine bGs Tryz.func90 ?_;unfold fdR;cases d:decide ((bslP s i).2>0)with
 |true=>
  simp only[cond_true];refine gO (tn 13 (kp hib (tn 2 (kb q92 (tn 3 (kc k (tn 2 (kg (fA (bslP s i).1 (bslP s i).2) trivial (tn 2 (kb d (tn 5 z))))))))))) ?_;exact eNs
 |false=>
  simp only[cond_false];refine gO (tn 13 (kp hib (tn 2 (kb q92 (tn 3 (kc k (tn 2 (kg (fA (bslP s i).1 (bslP s i).2) trivial (tn 2 (kb d (tn 2 (kc hNx (tn 9 (kn wn (kc hLt (tn 2 z)))))))))))))))) ?_;exact eNs
theorem pc38(hs:s.size<=1073741824)(h0:0<=i)(h1:i<s.size)(hta:TkOk s la)(htd:TkOk s ld)(q92:(BYi s i==92)=false)(q32:(BYi s i==32)=false)(q10:(BYi s i==10)=false)(q38:(BYi s i==38)=true):Va2 Tryz.prog 90 [.av (rdV s ka la kd ld),jI i] [glM m] [] (encQ (fdR (refP s i) (nxR s i))) [glM m] []:=by
 have hib:=ib s i ⟨h0,h1⟩
 have hNx:=Vcf s i hs h0 kv
 have nb:=Vct s i h0 h1
 have wn:=wrE (i+(nxtN s i).2) (i+(nxtN s i).2) kv
 have hLt:=Vci s i (i+(nxtN s i).2) hs h0 kv kv
 have k:=refP_to s i hs h0 h1;refine bGs Tryz.func90 ?_;unfold fdR;cases d:decide ((refP s i).2>0)with
 |true=>
  simp only[cond_true];refine gO (tn 13 (kp hib (tn 2 (kb q92 (tn 2 (kb q32 (tn 2 (kb q10 (tn 2 (kb q38 (tn 3 (kc k (tn 2 (kg (fA (refP s i).1 (refP s i).2) trivial (tn 2 (kb d (tn 5 z))))))))))))))))) ?_;exact eNs
 |false=>
  simp only[cond_false];refine gO (tn 13 (kp hib (tn 2 (kb q92 (tn 2 (kb q32 (tn 2 (kb q10 (tn 2 (kb q38 (tn 3 (kc k (tn 2 (kg (fA (refP s i).1 (refP s i).2) trivial (tn 2 (kb d (tn 2 (kc hNx (tn 9 (kn wn (kc hLt (tn 2 z)))))))))))))))))))))) ?_;exact eNs
theorem pc60(hs:s.size<=1073741824)(h0:0<=i)(h1:i<s.size)(hta:TkOk s la)(htd:TkOk s ld)(q92:(BYi s i==92)=false)(q32:(BYi s i==32)=false)(q10:(BYi s i==10)=false)(q38:(BYi s i==38)=false)(q36:(BYi s i==36)=false)(q96:(BYi s i==96)=false)(q60:(BYi s i==60)=true):Va2 Tryz.prog 90 [.av (rdV s ka la kd ld),jI i] [glM m] [] (encQ (fdR (autP s i) (nxR s i))) [glM m] []:=by
 have hib:=ib s i ⟨h0,h1⟩
 have hNx:=Vcf s i hs h0 kv
 have nb:=Vct s i h0 h1
 have wn:=wrE (i+(nxtN s i).2) (i+(nxtN s i).2) kv
 have hLt:=Vci s i (i+(nxtN s i).2) hs h0 kv kv
 have k:=autP_to s i hs h0 h1;refine bGs Tryz.func90 ?_;unfold fdR;cases d:decide ((autP s i).2>0)with
 |true=>
  simp only[cond_true];refine gO (tn 13 (kp hib (tn 2 (kb q92 (tn 2 (kb q32 (tn 2 (kb q10 (tn 2 (kb q38 (tn 2 (kb q36 (tn 2 (kb q96 (tn 2 (kb q60 (tn 3 (kc k (tn 2 (kg (fA (autP s i).1 (autP s i).2) trivial (tn 2 (kb d (tn 5 z))))))))))))))))))))))) ?_;exact eNs
 |false=>
  simp only[cond_false];refine gO (tn 13 (kp hib (tn 2 (kb q92 (tn 2 (kb q32 (tn 2 (kb q10 (tn 2 (kb q38 (tn 2 (kb q36 (tn 2 (kb q96 (tn 2 (kb q60 (tn 3 (kc k (tn 2 (kg (fA (autP s i).1 (autP s i).2) trivial (tn 2 (kb d (tn 2 (kc hNx (tn 9 (kn wn (kc hLt (tn 2 z)))))))))))))))))))))))))))) ?_;exact eNs
theorem pc123(hs:s.size<=1073741824)(h0:0<=i)(h1:i<s.size)(hta:TkOk s la)(htd:TkOk s ld)(q92:(BYi s i==92)=false)(q32:(BYi s i==32)=false)(q10:(BYi s i==10)=false)(q38:(BYi s i==38)=false)(q36:(BYi s i==36)=false)(q96:(BYi s i==96)=false)(q60:(BYi s i==60)=false)(q123:(BYi s i==123)=true):Va2 Tryz.prog 90 [.av (rdV s ka la kd ld),jI i] [glM m] [] (encQ (fdR (useP s i) (nxR s i))) [glM m] []:=by
 have hib:=ib s i ⟨h0,h1⟩
 have hNx:=Vcf s i hs h0 kv
 have nb:=Vct s i h0 h1
 have wn:=wrE (i+(nxtN s i).2) (i+(nxtN s i).2) kv
 have hLt:=Vci s i (i+(nxtN s i).2) hs h0 kv kv
 have k:=useP_to s i hs h0 h1;refine bGs Tryz.func90 ?_;unfold fdR;cases d:decide ((useP s i).2>0)with
 |true=>
  simp only[cond_true];refine gO (tn 13 (kp hib (tn 2 (kb q92 (tn 2 (kb q32 (tn 2 (kb q10 (tn 2 (kb q38 (tn 2 (kb q36 (tn 2 (kb q96 (tn 2 (kb q60 (tn 2 (kb q123 (tn 3 (kc k (tn 2 (kg (fA (useP s i).1 (useP s i).2) trivial (tn 2 (kb d (tn 5 z))))))))))))))))))))))))) ?_;exact eNs
 |false=>
  simp only[cond_false];refine gO (tn 13 (kp hib (tn 2 (kb q92 (tn 2 (kb q32 (tn 2 (kb q10 (tn 2 (kb q38 (tn 2 (kb q36 (tn 2 (kb q96 (tn 2 (kb q60 (tn 2 (kb q123 (tn 3 (kc k (tn 2 (kg (fA (useP s i).1 (useP s i).2) trivial (tn 2 (kb d (tn 2 (kc hNx (tn 9 (kn wn (kc hLt (tn 2 z)))))))))))))))))))))))))))))) ?_;exact eNs
theorem pc36(hs:s.size<=1073741824)(h0:0<=i)(h1:i<s.size)(hta:TkOk s la)(htd:TkOk s ld)(q92:(BYi s i==92)=false)(q32:(BYi s i==32)=false)(q10:(BYi s i==10)=false)(q38:(BYi s i==38)=false)(q36:(BYi s i==36)=true):Va2 Tryz.prog 90 [.av (rdV s ka la kd ld),jI i] [glM m] [] (encQ (fdR (mtcP s kd ld i) (fdR (dolG s i) (nxR s i)))) [glM m] []:=by
 have hib:=ib s i ⟨h0,h1⟩
 have hNx:=Vcf s i hs h0 kv
 have nb:=Vct s i h0 h1
 have wn:=wrE (i+(nxtN s i).2) (i+(nxtN s i).2) kv
 have hLt:=Vci s i (i+(nxtN s i).2) hs h0 kv kv
 have k:=mtcP_to s ka la kd ld m i hs h0 h1 htd
 have k2:=dolG_to s i hs h0 h1;refine bGs Tryz.func90 ?_;cases d:decide ((mtcP s kd ld i).2>0)with
 |true=>
  rw[show fdR (mtcP s kd ld i) (fdR (dolG s i) (nxR s i))=(DPiece.mk 0 (mtcP s kd ld i).1 ⟨#[]⟩ 0 false false false 0 (mtcP s kd ld i).2,false) by unfold fdR;rw[d];rfl];refine gO (tn 13 (kp hib (tn 2 (kb q92 (tn 2 (kb q32 (tn 2 (kb q10 (tn 2 (kb q38 (tn 2 (kb q36 (tn 3 (kg k trivial (tn 2 (kg (fA (mtcP s kd ld i).1 (mtcP s kd ld i).2) trivial (kb d (tn 2 (kb d (tn 5 z)))))))))))))))))))) ?_;exact eNs
 | false=>
  rw[show fdR (mtcP s kd ld i) (fdR (dolG s i) (nxR s i))=fdR (dolG s i) (nxR s i) by rw[fdR,d];rfl];unfold fdR;cases d2:decide ((dolG s i).2>0)with
  |true=>
   simp only[cond_true];refine gO (tn 13 (kp hib (tn 2 (kb q92 (tn 2 (kb q32 (tn 2 (kb q10 (tn 2 (kb q38 (tn 2 (kb q36 (tn 3 (kg k trivial (tn 2 (kg (fA (mtcP s kd ld i).1 (mtcP s kd ld i).2) trivial (kb d (tn 3 (kc k2 (tn 2 (kg (fB (mtcP s kd ld i).1 (dolG s i).1 (mtcP s kd ld i).2 (dolG s i).2) trivial (tn 2 (kb d2 (tn 5 z)))))))))))))))))))))))) ?_;exact eNs
  |false=>
   simp only[cond_false];refine gO (tn 13 (kp hib (tn 2 (kb q92 (tn 2 (kb q32 (tn 2 (kb q10 (tn 2 (kb q38 (tn 2 (kb q36 (tn 3 (kg k trivial (tn 2 (kg (fA (mtcP s kd ld i).1 (mtcP s kd ld i).2) trivial (kb d (tn 3 (kc k2 (tn 2 (kg (fB (mtcP s kd ld i).1 (dolG s i).1 (mtcP s kd ld i).2 (dolG s i).2) trivial (tn 2 (kb d2 (tn 2 (kc hNx (tn 9 (kn wn (kc hLt (tn 2 z))))))))))))))))))))))))))))) ?_;exact eNs
theorem pc96(hs:s.size<=1073741824)(h0:0<=i)(h1:i<s.size)(hta:TkOk s la)(htd:TkOk s ld)(q92:(BYi s i==92)=false)(q32:(BYi s i==32)=false)(q10:(BYi s i==10)=false)(q38:(BYi s i==38)=false)(q36:(BYi s i==36)=false)(q96:(BYi s i==96)=true):Va2 Tryz.prog 90 [.av (rdV s ka la kd ld),jI i] [glM m] [] (encQ (fdR (codP s ka la i) (litP s i (runE s i),true))) [glM m] []:=by
 have hib:=ib s i ⟨h0,h1⟩
 have k:=codP_to s ka la kd ld m i hs h0 h1 hta
 have hRn:=Vk4 s i hs h0 h1
 have hb:=Veo s i h0
 have hLt:=Vci s i (runE s i) hs h0 kv kv;refine bGs Tryz.func90 ?_;unfold fdR;cases d:decide ((codP s ka la i).2>0)with
 |true=>
  simp only[cond_true];refine gO (tn 13 (kp hib (tn 2 (kb q92 (tn 2 (kb q32 (tn 2 (kb q10 (tn 2 (kb q38 (tn 2 (kb q36 (tn 2 (kb q96 (tn 3 (kg k trivial (tn 2 (kg (fA (codP s ka la i).1 (codP s ka la i).2) trivial (tn 1 (kb (b:= !decide ((codP s ka la i).2>0)) (d:=false) (by rw[d];rfl) (tn 2 (kb d (tn 5 z))))))))))))))))))))))) ?_;exact eNs
 |false=>
  simp only[cond_false];refine gO (tn 13 (kp hib (tn 2 (kb q92 (tn 2 (kb q32 (tn 2 (kb q10 (tn 2 (kb q38 (tn 2 (kb q36 (tn 2 (kb q96 (tn 3 (kg k trivial (tn 2 (kg (fA (codP s ka la i).1 (codP s ka la i).2) trivial (tn 1 (kb (b:= !decide ((codP s ka la i).2>0)) (d:=true) (by rw[d];rfl) (tn 4 (kc hRn (kc hLt (tn 2 z)))))))))))))))))))))))) ?_;exact eNs
theorem pc32(hs:s.size<=1073741824)(h0:0<=i)(h1:i<s.size)(hta:TkOk s la)(htd:TkOk s ld)(q92:(BYi s i==92)=false)(q32:(BYi s i==32)=true):Va2 Tryz.prog 90 [.av (rdV s ka la kd ld),jI i] [glM m] [] (encQ (cond (cond (decide (skpS s i>=((Za s:Nat):Int))) true (BYi s (skpS s i) !=10)) (litP s i (skpS s i),true) (fdR (coI 2 ⟨#[]⟩,skpS s (skpS s i+1)) (nxR s i)))) [glM m] []:=by
 have hib:=ib s i ⟨h0,h1⟩
 have hNx:=Vcf s i hs h0 kv
 have nb:=Vct s i h0 h1
 have wn:=wrE (i+(nxtN s i).2) (i+(nxtN s i).2) kv
 have hLt:=Vci s i (i+(nxtN s i).2) hs h0 kv kv
 have hSk:=Vk2 s i hs h0 kv
 have sb:=Vbw s i h0
 have hLt2:=Vci s i (skpS s i) hs h0 kv kv;refine bGs Tryz.func90 ?_;cases d1:decide (skpS s i>=((Za s:Nat):Int))with
 |true=>
  simp only[cond_true];refine gO (tn 13 (kp hib (tn 2 (kb q92 (tn 2 (kb q32 (kb q32 (tn 2 (kc hSk (tn 6 (kb d1 (kb d1 (kb d1 (kb d1 (kb d1 (kb (b:=true) (d:=true) rfl (tn 3 (kc hLt2 (tn 2 z))))))))))))))))))) ?_;exact eNs
 | false=>
  have d1p:=of_decide_eq_false d1
  have hib2:=ib s (skpS s i) ⟨by omega,by omega⟩;cases d2:(BYi s (skpS s i) !=10)with
  |true=>
   simp only[cond_true,cond_false];refine gO (tn 13 (kp hib (tn 2 (kb q92 (tn 2 (kb q32 (kb q32 (tn 2 (kc hSk (tn 6 (kb d1 (tn 1 (kb d1 (tn 1 (kb d1 (kp hib2 (kb d1 (tn 1 (kb d1 (kb d2 (tn 3 (kc hLt2 (tn 2 z))))))))))))))))))))))) ?_;exact eNs
  | false=>
   simp only[cond_false]
   have w2:=wrE (skpS s i+1) (skpS s i+1) kv
   have hSk2:=Vk2 s (skpS s i+1) hs kv kv;unfold fdR;cases d3:decide ((coI 2 ⟨#[]⟩,skpS s (skpS s i+1)).2>0)with
   |true=>
    simp only[cond_true];refine gO (tn 13 (kp hib (tn 2 (kb q92 (tn 2 (kb q32 (kb q32 (tn 2 (kc hSk (tn 6 (kb d1 (tn 1 (kb d1 (tn 1 (kb d1 (kp hib2 (kb d1 (tn 1 (kb d1 (kb d2 (tn 4 (kn w2 (kc hSk2 (kg (fA (coI 2 ⟨#[]⟩) (skpS s (skpS s i+1))) trivial (tn 2 (kb d3 (tn 5 z))))))))))))))))))))))))))) ?_;exact eNs
   |false=>
    simp only[cond_false];refine gO (tn 13 (kp hib (tn 2 (kb q92 (tn 2 (kb q32 (kb q32 (tn 2 (kc hSk (tn 6 (kb d1 (tn 1 (kb d1 (tn 1 (kb d1 (kp hib2 (kb d1 (tn 1 (kb d1 (kb d2 (tn 4 (kn w2 (kc hSk2 (kg (fA (coI 2 ⟨#[]⟩) (skpS s (skpS s i+1))) trivial (tn 2 (kb d3 (tn 2 (kc hNx (tn 9 (kn wn (kc hLt (tn 2 z)))))))))))))))))))))))))))))))) ?_;exact eNs
theorem pc10(hs:s.size<=1073741824)(h0:0<=i)(h1:i<s.size)(hta:TkOk s la)(htd:TkOk s ld)(q92:(BYi s i==92)=false)(q32:(BYi s i==32)=false)(q10:(BYi s i==10)=true):Va2 Tryz.prog 90 [.av (rdV s ka la kd ld),jI i] [glM m] [] (encQ (cond (cond (decide (skpS s i>=((Za s:Nat):Int))) true (BYi s (skpS s i) !=10)) (litP s i (skpS s i),true) (fdR (coI 2 ⟨#[]⟩,skpS s (skpS s i+1)) (nxR s i)))) [glM m] []:=by
 have hib:=ib s i ⟨h0,h1⟩
 have hNx:=Vcf s i hs h0 kv
 have nb:=Vct s i h0 h1
 have wn:=wrE (i+(nxtN s i).2) (i+(nxtN s i).2) kv
 have hLt:=Vci s i (i+(nxtN s i).2) hs h0 kv kv
 have hSk:=Vk2 s i hs h0 kv
 have sb:=Vbw s i h0
 have hLt2:=Vci s i (skpS s i) hs h0 kv kv;refine bGs Tryz.func90 ?_;cases d1:decide (skpS s i>=((Za s:Nat):Int))with
 |true=>
  simp only[cond_true];refine gO (tn 13 (kp hib (tn 2 (kb q92 (tn 2 (kb q32 (tn 2 (kb q10 (tn 2 (kc hSk (tn 6 (kb d1 (kb d1 (kb d1 (kb d1 (kb d1 (kb (b:=true) (d:=true) rfl (tn 3 (kc hLt2 (tn 2 z)))))))))))))))))))) ?_;exact eNs
 | false=>
  have d1p:=of_decide_eq_false d1
  have hib2:=ib s (skpS s i) ⟨by omega,by omega⟩;cases d2:(BYi s (skpS s i) !=10)with
  |true=>
   simp only[cond_true,cond_false];refine gO (tn 13 (kp hib (tn 2 (kb q92 (tn 2 (kb q32 (tn 2 (kb q10 (tn 2 (kc hSk (tn 6 (kb d1 (tn 1 (kb d1 (tn 1 (kb d1 (kp hib2 (kb d1 (tn 1 (kb d1 (kb d2 (tn 3 (kc hLt2 (tn 2 z)))))))))))))))))))))))) ?_;exact eNs
  | false=>
   simp only[cond_false]
   have w2:=wrE (skpS s i+1) (skpS s i+1) kv
   have hSk2:=Vk2 s (skpS s i+1) hs kv kv;unfold fdR;cases d3:decide ((coI 2 ⟨#[]⟩,skpS s (skpS s i+1)).2>0)with
   |true=>
    simp only[cond_true];refine gO (tn 13 (kp hib (tn 2 (kb q92 (tn 2 (kb q32 (tn 2 (kb q10 (tn 2 (kc hSk (tn 6 (kb d1 (tn 1 (kb d1 (tn 1 (kb d1 (kp hib2 (kb d1 (tn 1 (kb d1 (kb d2 (tn 4 (kn w2 (kc hSk2 (kg (fA (coI 2 ⟨#[]⟩) (skpS s (skpS s i+1))) trivial (tn 2 (kb d3 (tn 5 z)))))))))))))))))))))))))))) ?_;exact eNs
   |false=>
    simp only[cond_false];refine gO (tn 13 (kp hib (tn 2 (kb q92 (tn 2 (kb q32 (tn 2 (kb q10 (tn 2 (kc hSk (tn 6 (kb d1 (tn 1 (kb d1 (tn 1 (kb d1 (kp hib2 (kb d1 (tn 1 (kb d1 (kb d2 (tn 4 (kn w2 (kc hSk2 (kg (fA (coI 2 ⟨#[]⟩) (skpS s (skpS s i+1))) trivial (tn 2 (kb d3 (tn 2 (kc hNx (tn 9 (kn wn (kc hLt (tn 2 z))))))))))))))))))))))))))))))))) ?_;exact eNs
end
end Go.Proofs.YthbpjmogdonlkaaGreatDoor
namespace Go.Proofs.YthbpjmogdonlkaaGreatDoor
open Go Go.Eng
def pcR(k:Int)(img:Bool)(e:Int):DPiece×Bool:=(DPiece.mk k zI ⟨#[]⟩ 0 false false img 0 e,false)
section
variable (s:ByteArray) (ka:List Int) (la:List (List Int)) (kd:List Int) (ld:List (List Int)) (m i:Int)
theorem pc91(hs:s.size<=1073741824)(h0:0<=i)(h1:i<s.size)(hta:TkOk s la)(htd:TkOk s ld)(q92:(BYi s i==92)=false)(q32:(BYi s i==32)=false)(q10:(BYi s i==10)=false)(q38:(BYi s i==38)=false)(q36:(BYi s i==36)=false)(q96:(BYi s i==96)=false)(q60:(BYi s i==60)=false)(q123:(BYi s i==123)=false)(q91:(BYi s i==91)=true):Va2 Tryz.prog 90 [.av (rdV s ka la kd ld),jI i] [glM m] [] (encQ (fdR (nmdP s i) (fdR (cteG s i) (pcR 2 false (i+1))))) [glM m] []:=by
 have hib:=ib s i ⟨h0,h1⟩
 have k:=nmdP_to s i hs h0 h1
 have k2:=cteG_to s i hs h0 h1
 have w1:=wrE (i+1) (i+1) kv;refine bGs Tryz.func90 ?_;cases d:decide ((nmdP s i).2>0)with
 |true=>
  rw[show fdR (nmdP s i) (fdR (cteG s i) (pcR 2 false (i+1)))=(DPiece.mk 0 (nmdP s i).1 ⟨#[]⟩ 0 false false false 0 (nmdP s i).2,false) by unfold fdR;rw[d];rfl];refine gO (tn 13 (kp hib (tn 2 (kb q92 (tn 2 (kb q32 (tn 2 (kb q10 (tn 2 (kb q38 (tn 2 (kb q36 (tn 2 (kb q96 (tn 2 (kb q60 (tn 2 (kb q123 (tn 2 (kb q91 (tn 3 (kc k (tn 2 (kg (fA (nmdP s i).1 (nmdP s i).2) trivial (tn 1 (kb d (kb d (kb d (kb d (kb d (kb d (kb d (kb d (kb (b:=true) (d:=true) rfl (tn 2 (kb d (tn 5 z))))))))))))))))))))))))))))))))))))) ?_;exact eNs
 | false=>
  rw[show fdR (nmdP s i) (fdR (cteG s i) (pcR 2 false (i+1)))=fdR (cteG s i) (pcR 2 false (i+1)) by rw[fdR,d];rfl];unfold fdR;cases d2:decide ((cteG s i).2>0)with
  |true=>
   simp only[cond_true];refine gO (tn 13 (kp hib (tn 2 (kb q92 (tn 2 (kb q32 (tn 2 (kb q10 (tn 2 (kb q38 (tn 2 (kb q36 (tn 2 (kb q96 (tn 2 (kb q60 (tn 2 (kb q123 (tn 2 (kb q91 (tn 3 (kc k (tn 2 (kg (fA (nmdP s i).1 (nmdP s i).2) trivial (tn 1 (kb d (tn 1 (kb d (tn 1 (kb d (tn 1 (kb d (kc k2 (kb d (tn 1 (kb d (tn 1 (kb d (kg (fB (nmdP s i).1 (cteG s i).1 (nmdP s i).2 (cteG s i).2) trivial (kb d (kb d2 (tn 2 (kb d2 (tn 5 z)))))))))))))))))))))))))))))))))))))))))))) ?_;exact eNs
  |false=>
   simp only[cond_false];refine gO (tn 13 (kp hib (tn 2 (kb q92 (tn 2 (kb q32 (tn 2 (kb q10 (tn 2 (kb q38 (tn 2 (kb q36 (tn 2 (kb q96 (tn 2 (kb q60 (tn 2 (kb q123 (tn 2 (kb q91 (tn 3 (kc k (tn 2 (kg (fA (nmdP s i).1 (nmdP s i).2) trivial (tn 1 (kb d (tn 1 (kb d (tn 1 (kb d (tn 1 (kb d (kc k2 (kb d (tn 1 (kb d (tn 1 (kb d (kg (fB (nmdP s i).1 (cteG s i).1 (nmdP s i).2 (cteG s i).2) trivial (kb d (kb d2 (tn 1 (kn w1 (tn 3 z)))))))))))))))))))))))))))))))))))))))))))) ?_;exact eNs
theorem pc33(hs:s.size<=1073741824)(h0:0<=i)(h1:i<s.size)(hta:TkOk s la)(htd:TkOk s ld)(q92:(BYi s i==92)=false)(q32:(BYi s i==32)=false)(q10:(BYi s i==10)=false)(q38:(BYi s i==38)=false)(q36:(BYi s i==36)=false)(q96:(BYi s i==96)=false)(q60:(BYi s i==60)=false)(q123:(BYi s i==123)=false)(q91:(BYi s i==91)=false)(q33:(BYi s i==33)=true):Va2 Tryz.prog 90 [.av (rdV s ka la kd ld),jI i] [glM m] [] (encQ (cond (cond (decide (i+1<((Za s:Nat):Int))) (BYi s (i+1)==91) false) (pcR 2 true (i+2)) (nxR s i))) [glM m] []:=by
 have hib:=ib s i ⟨h0,h1⟩
 have hNx:=Vcf s i hs h0 kv
 have nb:=Vct s i h0 h1
 have wn:=wrE (i+(nxtN s i).2) (i+(nxtN s i).2) kv
 have hLt:=Vci s i (i+(nxtN s i).2) hs h0 kv kv
 have w1:=wrE (i+1) (i+1) kv
 have w2:=wrE (i+2) (i+2) kv;refine bGs Tryz.func90 ?_;cases d1:decide (i+1<((Za s:Nat):Int))with
 |false=>
  simp only[cond_false];refine gO (tn 13 (kp hib (tn 2 (kb q92 (tn 2 (kb q32 (tn 2 (kb q10 (tn 2 (kb q38 (tn 2 (kb q36 (tn 2 (kb q96 (tn 2 (kb q60 (tn 2 (kb q123 (tn 2 (kb q91 (tn 2 (kb q33 (tn 1 (kn w1 (tn 4 (kb d1 (kb d1 (kb d1 (kb d1 (kb d1 (kb d1 (kb (b:=false) (d:=false) rfl (tn 2 (kb (b:=decide ((0:Int)>0)) (d:=false) rfl (tn 2 (kc hNx (tn 9 (kn wn (kc hLt (tn 2 z)))))))))))))))))))))))))))))))))))))))) ?_;exact eNs
 | true=>
  have d1p:=of_decide_eq_true d1
  have hib2:=ib s (i+1) ⟨by omega,by omega⟩;cases d2:(BYi s (i+1)==91)with
  |true=>
   simp only[cond_true];refine gO (tn 13 (kp hib (tn 2 (kb q92 (tn 2 (kb q32 (tn 2 (kb q10 (tn 2 (kb q38 (tn 2 (kb q36 (tn 2 (kb q96 (tn 2 (kb q60 (tn 2 (kb q123 (tn 2 (kb q91 (tn 2 (kb q33 (tn 1 (kn w1 (tn 4 (kb d1 (tn 1 (kb d1 (tn 1 (kb d1 (kn w1 (kb d1 (kp hib2 (kb d1 (tn 1 (kb d1 (kb d2 (tn 1 (kn w2 (tn 3 z)))))))))))))))))))))))))))))))))))))))) ?_;exact eNs
  |false=>
   simp only[cond_true,cond_false];refine gO (tn 13 (kp hib (tn 2 (kb q92 (tn 2 (kb q32 (tn 2 (kb q10 (tn 2 (kb q38 (tn 2 (kb q36 (tn 2 (kb q96 (tn 2 (kb q60 (tn 2 (kb q123 (tn 2 (kb q91 (tn 2 (kb q33 (tn 1 (kn w1 (tn 4 (kb d1 (tn 1 (kb d1 (tn 1 (kb d1 (kn w1 (kb d1 (kp hib2 (kb d1 (tn 1 (kb d1 (kb d2 (tn 2 (kb (b:=decide ((0:Int)>0)) (d:=false) rfl (tn 2 (kc hNx (tn 9 (kn wn (kc hLt (tn 2 z))))))))))))))))))))))))))))))))))))))))))))) ?_;exact eNs
theorem pc93(hs:s.size<=1073741824)(h0:0<=i)(h1:i<s.size)(hta:TkOk s la)(htd:TkOk s ld)(q92:(BYi s i==92)=false)(q32:(BYi s i==32)=false)(q10:(BYi s i==10)=false)(q38:(BYi s i==38)=false)(q36:(BYi s i==36)=false)(q96:(BYi s i==96)=false)(q60:(BYi s i==60)=false)(q123:(BYi s i==123)=false)(q91:(BYi s i==91)=false)(q33:(BYi s i==33)=false)(q93:(BYi s i==93)=true):Va2 Tryz.prog 90 [.av (rdV s ka la kd ld),jI i] [glM m] [] (encQ (pcR 3 false (i+1))) [glM m] []:=by
 have hib:=ib s i ⟨h0,h1⟩
 have w1:=wrE (i+1) (i+1) kv;refine bGs Tryz.func90 ?_;refine gO (tn 13 (kp hib (tn 2 (kb q92 (tn 2 (kb q32 (tn 2 (kb q10 (tn 2 (kb q38 (tn 2 (kb q36 (tn 2 (kb q96 (tn 2 (kb q60 (tn 2 (kb q123 (tn 2 (kb q91 (tn 2 (kb q33 (tn 2 (kb q93 (tn 1 (kn w1 (tn 3 z))))))))))))))))))))))))))) ?_;exact eNs
theorem pc42(hs:s.size<=1073741824)(h0:0<=i)(h1:i<s.size)(hta:TkOk s la)(htd:TkOk s ld)(q92:(BYi s i==92)=false)(q32:(BYi s i==32)=false)(q10:(BYi s i==10)=false)(q38:(BYi s i==38)=false)(q36:(BYi s i==36)=false)(q96:(BYi s i==96)=false)(q60:(BYi s i==60)=false)(q123:(BYi s i==123)=false)(q91:(BYi s i==91)=false)(q33:(BYi s i==33)=false)(q93:(BYi s i==93)=false)(q42:(BYi s i==42)=true):Va2 Tryz.prog 90 [.av (rdV s ka la kd ld),jI i] [glM m] [] (encQ (runP s ka (tkV la) kd (tkV ld) i)) [glM m] []:=by
 have hib:=ib s i ⟨h0,h1⟩
 have k:=runP_to s ka (tkV la) kd (tkV ld) i hs h0 h1;refine bGs Tryz.func90 ?_;refine gO (tn 13 (kp hib (tn 2 (kb q92 (tn 2 (kb q32 (tn 2 (kb q10 (tn 2 (kb q38 (tn 2 (kb q36 (tn 2 (kb q96 (tn 2 (kb q60 (tn 2 (kb q123 (tn 2 (kb q91 (tn 2 (kb q33 (tn 2 (kb q93 (tn 2 (kb q42 (kb q42 (tn 2 (kc k (tn 4 z)))))))))))))))))))))))))))))) ?_;exact eNs
theorem pc95(hs:s.size<=1073741824)(h0:0<=i)(h1:i<s.size)(hta:TkOk s la)(htd:TkOk s ld)(q92:(BYi s i==92)=false)(q32:(BYi s i==32)=false)(q10:(BYi s i==10)=false)(q38:(BYi s i==38)=false)(q36:(BYi s i==36)=false)(q96:(BYi s i==96)=false)(q60:(BYi s i==60)=false)(q123:(BYi s i==123)=false)(q91:(BYi s i==91)=false)(q33:(BYi s i==33)=false)(q93:(BYi s i==93)=false)(q42:(BYi s i==42)=false)(q95:(BYi s i==95)=true):Va2 Tryz.prog 90 [.av (rdV s ka la kd ld),jI i] [glM m] [] (encQ (runP s ka (tkV la) kd (tkV ld) i)) [glM m] []:=by
 have hib:=ib s i ⟨h0,h1⟩
 have k:=runP_to s ka (tkV la) kd (tkV ld) i hs h0 h1;refine bGs Tryz.func90 ?_;refine gO (tn 13 (kp hib (tn 2 (kb q92 (tn 2 (kb q32 (tn 2 (kb q10 (tn 2 (kb q38 (tn 2 (kb q36 (tn 2 (kb q96 (tn 2 (kb q60 (tn 2 (kb q123 (tn 2 (kb q91 (tn 2 (kb q33 (tn 2 (kb q93 (tn 2 (kb q42 (tn 2 (kb q95 (kb q95 (tn 2 (kc k (tn 4 z)))))))))))))))))))))))))))))))) ?_;exact eNs
theorem pc126(hs:s.size<=1073741824)(h0:0<=i)(h1:i<s.size)(hta:TkOk s la)(htd:TkOk s ld)(q92:(BYi s i==92)=false)(q32:(BYi s i==32)=false)(q10:(BYi s i==10)=false)(q38:(BYi s i==38)=false)(q36:(BYi s i==36)=false)(q96:(BYi s i==96)=false)(q60:(BYi s i==60)=false)(q123:(BYi s i==123)=false)(q91:(BYi s i==91)=false)(q33:(BYi s i==33)=false)(q93:(BYi s i==93)=false)(q42:(BYi s i==42)=false)(q95:(BYi s i==95)=false)(q126:(BYi s i==126)=true):Va2 Tryz.prog 90 [.av (rdV s ka la kd ld),jI i] [glM m] [] (encQ (runP s ka (tkV la) kd (tkV ld) i)) [glM m] []:=by
 have hib:=ib s i ⟨h0,h1⟩
 have k:=runP_to s ka (tkV la) kd (tkV ld) i hs h0 h1;refine bGs Tryz.func90 ?_;refine gO (tn 13 (kp hib (tn 2 (kb q92 (tn 2 (kb q32 (tn 2 (kb q10 (tn 2 (kb q38 (tn 2 (kb q36 (tn 2 (kb q96 (tn 2 (kb q60 (tn 2 (kb q123 (tn 2 (kb q91 (tn 2 (kb q33 (tn 2 (kb q93 (tn 2 (kb q42 (tn 2 (kb q95 (tn 2 (kb q126 (tn 2 (kc k (tn 4 z))))))))))))))))))))))))))))))))) ?_;exact eNs
theorem pc0(hs:s.size<=1073741824)(h0:0<=i)(h1:i<s.size)(hta:TkOk s la)(htd:TkOk s ld)(q92:(BYi s i==92)=false)(q32:(BYi s i==32)=false)(q10:(BYi s i==10)=false)(q38:(BYi s i==38)=false)(q36:(BYi s i==36)=false)(q96:(BYi s i==96)=false)(q60:(BYi s i==60)=false)(q123:(BYi s i==123)=false)(q91:(BYi s i==91)=false)(q33:(BYi s i==33)=false)(q93:(BYi s i==93)=false)(q42:(BYi s i==42)=false)(q95:(BYi s i==95)=false)(q126:(BYi s i==126)=false):Va2 Tryz.prog 90 [.av (rdV s ka la kd ld),jI i] [glM m] [] (encQ (nxR s i)) [glM m] []:=by
 have hib:=ib s i ⟨h0,h1⟩
 have hNx:=Vcf s i hs h0 kv
 have nb:=Vct s i h0 h1
 have wn:=wrE (i+(nxtN s i).2) (i+(nxtN s i).2) kv
 have hLt:=Vci s i (i+(nxtN s i).2) hs h0 kv kv;refine bGs Tryz.func90 ?_;refine gO (tn 13 (kp hib (tn 2 (kb q92 (tn 2 (kb q32 (tn 2 (kb q10 (tn 2 (kb q38 (tn 2 (kb q36 (tn 2 (kb q96 (tn 2 (kb q60 (tn 2 (kb q123 (tn 2 (kb q91 (tn 2 (kb q33 (tn 2 (kb q93 (tn 2 (kb q42 (tn 2 (kb q95 (tn 2 (kb q126 (tn 2 (kb (b:=decide ((0:Int)>0)) (d:=false) rfl (tn 2 (kc hNx (tn 9 (kn wn (kc hLt (tn 2 z)))))))))))))))))))))))))))))))))))))) ?_;exact eNs
end
end Go.Proofs.YthbpjmogdonlkaaGreatDoor
namespace Go.Proofs.YthbpjmogdonlkaaGreatDoor
open Go Go.Eng
def spR(s:ByteArray)(i:Int):DPiece×Bool:=cond (cond (decide (skpS s i>=((Za s:Nat):Int))) true (BYi s (skpS s i) !=10)) (litP s i (skpS s i),true) (fdR (coI 2 ⟨#[]⟩,skpS s (skpS s i+1)) (nxR s i))
def pceG(s:ByteArray)(ka:List Int)(la:List (List Int))(kd:List Int)(ld:List (List Int))(i:Int):DPiece×Bool:=
 cond (BYi s i==92) (fdR (bslP s i) (nxR s i)) (
 cond (BYi s i==32) (spR s i) (
 cond (BYi s i==10) (spR s i) (
 cond (BYi s i==38) (fdR (refP s i) (nxR s i)) (
 cond (BYi s i==36) (fdR (mtcP s kd ld i) (fdR (dolG s i) (nxR s i))) (
 cond (BYi s i==96) (fdR (codP s ka la i) (litP s i (runE s i),true)) (
 cond (BYi s i==60) (fdR (autP s i) (nxR s i)) (
 cond (BYi s i==123) (fdR (useP s i) (nxR s i)) (
 cond (BYi s i==91) (fdR (nmdP s i) (fdR (cteG s i) (pcR 2 false (i+1)))) (
 cond (BYi s i==33) (cond (cond (decide (i+1<((Za s:Nat):Int))) (BYi s (i+1)==91) false) (pcR 2 true (i+2)) (nxR s i)) (
 cond (BYi s i==93) (pcR 3 false (i+1)) (
 cond (BYi s i==42) (runP s ka (tkV la) kd (tkV ld) i) (
 cond (BYi s i==95) (runP s ka (tkV la) kd (tkV ld) i) (
 cond (BYi s i==126) (runP s ka (tkV la) kd (tkV ld) i) (
 nxR s i))))))))))))))
theorem pceG_to(s:ByteArray)(ka:List Int)(la:List (List Int))(kd:List Int)(ld:List (List Int))(m i:Int)(hs:s.size<=1073741824)(h0:0<=i)(h1:i<s.size)(hta:TkOk s la)(htd:TkOk s ld):
  Va2 Tryz.prog 90 [.av (rdV s ka la kd ld),jI i] [glM m] [] (encQ (pceG s ka la kd ld i)) [glM m] []:=by
 unfold pceG;cases q92:BYi s i==92 with
 |true=>
  simp only[cond_true];exact pc92 s ka la kd ld m i hs h0 h1 hta htd q92
 | false=>
  simp only[cond_false];cases q32:BYi s i==32 with
  |true=>
   simp only[cond_true];exact pc32 s ka la kd ld m i hs h0 h1 hta htd q92 q32
  | false=>
   simp only[cond_false];cases q10:BYi s i==10 with
   |true=>
    simp only[cond_true];exact pc10 s ka la kd ld m i hs h0 h1 hta htd q92 q32 q10
   | false=>
    simp only[cond_false];cases q38:BYi s i==38 with
    |true=>
     simp only[cond_true];exact pc38 s ka la kd ld m i hs h0 h1 hta htd q92 q32 q10 q38
    | false=>
     simp only[cond_false];cases q36:BYi s i==36 with
     |true=>
      simp only[cond_true];exact pc36 s ka la kd ld m i hs h0 h1 hta htd q92 q32 q10 q38 q36
     | false=>
      simp only[cond_false];cases q96:BYi s i==96 with
      |true=>
       simp only[cond_true];exact pc96 s ka la kd ld m i hs h0 h1 hta htd q92 q32 q10 q38 q36 q96
      | false=>
       simp only[cond_false];cases q60:BYi s i==60 with
       |true=>
        simp only[cond_true];exact pc60 s ka la kd ld m i hs h0 h1 hta htd q92 q32 q10 q38 q36 q96 q60
       | false=>
        simp only[cond_false];cases q123:BYi s i==123 with
        |true=>
         simp only[cond_true];exact pc123 s ka la kd ld m i hs h0 h1 hta htd q92 q32 q10 q38 q36 q96 q60 q123
        | false=>
         simp only[cond_false];cases q91:BYi s i==91 with
         |true=>
          simp only[cond_true];exact pc91 s ka la kd ld m i hs h0 h1 hta htd q92 q32 q10 q38 q36 q96 q60 q123 q91
         | false=>
          simp only[cond_false];cases q33:BYi s i==33 with
          |true=>
           simp only[cond_true];exact pc33 s ka la kd ld m i hs h0 h1 hta htd q92 q32 q10 q38 q36 q96 q60 q123 q91 q33
          | false=>
           simp only[cond_false];cases q93:BYi s i==93 with
           |true=>
            simp only[cond_true];exact pc93 s ka la kd ld m i hs h0 h1 hta htd q92 q32 q10 q38 q36 q96 q60 q123 q91 q33 q93
           | false=>
            simp only[cond_false];cases q42:BYi s i==42 with
            |true=>
             simp only[cond_true];exact pc42 s ka la kd ld m i hs h0 h1 hta htd q92 q32 q10 q38 q36 q96 q60 q123 q91 q33 q93 q42
            | false=>
             simp only[cond_false];cases q95:BYi s i==95 with
             |true=>
              simp only[cond_true];exact pc95 s ka la kd ld m i hs h0 h1 hta htd q92 q32 q10 q38 q36 q96 q60 q123 q91 q33 q93 q42 q95
             | false=>
              simp only[cond_false];cases q126:BYi s i==126 with
              |true=>
               simp only[cond_true];exact pc126 s ka la kd ld m i hs h0 h1 hta htd q92 q32 q10 q38 q36 q96 q60 q123 q91 q33 q93 q42 q95 q126
              |false=>
               simp only[cond_false];exact pc0 s ka la kd ld m i hs h0 h1 hta htd q92 q32 q10 q38 q36 q96 q60 q123 q91 q33 q93 q42 q95 q126
end Go.Proofs.YthbpjmogdonlkaaGreatDoor
namespace Go.Eng
section
variable {P:Program}
end
end Go.Eng
namespace Go.Proofs.YthbpjmogdonlkaaGreatDoor
open Go Go.Eng
def pcH(s:ByteArray)(ka:List Int)(la:List (List Int))(kd:List Int)(ld:List (List Int))(i:Int):DPiece:={(pceG s ka la kd ld i).1 with fAt:=i}
def rdY(s:ByteArray)(ka:List Int)(la:List (List Int))(kd:List Int)(ld:List (List Int))(m:Int):List (Nat×ABox):=[(1000,rdX s ka la kd ld),glM m]
theorem pcs1G_to(s:ByteArray)(ka:List Int)(la:List (List Int))(kd:List Int)(ld:List (List Int))(m i:Int)(hs:s.size<=1073741824)(h0:0<=i)(h1:i<s.size)(hta:TkOk s la)(htd:TkOk s ld):
  Va2 Tryz.prog 89 [jI i,.ptr 1000 0] (rdY s ka la kd ld m) [] (.av (.tup [Vbo (pcH s ka la kd ld i),vB (pceG s ka la kd ld i).2])) (rdY s ka la kd ld m) []:=by
 have k:=pceG_to s ka la kd ld m i hs h0 h1 hta htd;unfold pcH;generalize pceG s ka la kd ld i=r at k ⊢;refine bGs Tryz.func89 ?_;refine gO (tn 4 (kg k trivial (tn 13 z))) ?_;exact eNs
def RnsTo(s:ByteArray)(ka:List Int)(la:List (List Int))(kd:List Int)(ld:List (List Int)):Prop:=Va2 Tryz.prog 88 [jS s] [] [] (.av (.agg [.im ka (tkV la),.im kd (tkV ld)])) [] []
theorem pisG_to(s:ByteArray)(ka:List Int)(la:List (List Int))(kd:List Int)(ld:List (List Int))(hr:RnsTo s ka la kd ld):Vlj Tryz.prog 51 [jS s] [(3,rdX s ka la kd ld)] (.fn 89 [] [.ptr 3 0]):=by
 unfold RnsTo at hr;refine BEGn Tryz.func51 kx ?_;refine gO (tn 3 (kc hr (tn 5 z))) ?_;exact eNs
def Bd(s:ByteArray)(i:Int)(r:DInline×Int):Prop:=r.2=0\/(i<r.2/\r.2<=3*s.size+10)
theorem Bd.mk{s:ByteArray}{i:Int}{x:DInline}{e:Int}(h:i<e)(h2:e<=3*s.size+10):Bd s i (x,e):=.inr ⟨h,h2⟩
theorem bslP_bd(s:ByteArray)(i:Int)(h0:0<=i)(h1:i<s.size):Bd s i (bslP s i):=by
 have hb:=Vbw s (i+2) kv;unfold bslP
 repeat' (first|exact .inl rfl|exact Bd.mk kv kv|refine Va5 (Bd s i) (λ_=>?_) (λ_=>?_))
theorem nmdP_bd(s:ByteArray)(i:Int)(h0:0<=i)(h1:i<s.size):Bd s i (nmdP s i):=by
 have hb:=Vfh s (i+2) kv;unfold nmdP
 repeat' (first|exact .inl rfl|exact Bd.mk kv kv|refine Va5 (Bd s i) (λ_=>?_) (λ_=>?_))
theorem dolG_bd(s:ByteArray)(i:Int)(h0:0<=i)(h1:i<s.size):Bd s i (dolG s i):=by
 have hz:=Vag s (Int.toNat (i+1)) s.size
 have hb:=Vkp (ByteArray.extract s (Int.toNat (i+1)) (Za s)) ⟨#[36,10]⟩;unfold dolG;refine Va5 (Bd s i) (λ_=>.inl rfl) (λq=>?_)
 have q:=of_decide_eq_false q
 repeat' (first|exact .inl rfl|exact Bd.mk kv kv|refine Va5 (Bd s i) (λ_=>?_) (λ_=>?_))
theorem cteG_bd(s:ByteArray)(i:Int)(h0:0<=i)(h1:i<s.size):Bd s i (cteG s i):=by
 have hz:=Vag s (Int.toNat (i+1)) s.size
 have hb:=Vkp (ByteArray.extract s (Int.toNat (i+1)) (Za s)) ⟨#[91,93]⟩;unfold cteG;refine Va5 (Bd s i) (λ_=>.inl rfl) (λq=>?_);obtain⟨q,_⟩:=Vae q
 have q:=of_decide_eq_false q
 repeat' (first|exact .inl rfl|exact Bd.mk kv kv|refine Va5 (Bd s i) (λ_=>?_) (λ_=>?_))
theorem Vi3(s:ByteArray)(i:Int)(h0:0<=i)(h1:i<s.size):i+1<=runE s i:=by
 have hd:decide (i<((Za s:Nat):Int))=true:=decide_eq_true h1
 have hr:∀ n,runE_L0 s i (n+1) i=runE_L0 s i n (i+1):=λn=>by rw[runE_L0,hd];simp
 have hf:∀(n:Nat)(v:Int),0<=v->s.size-v.toNat<n->v<=runE_L0 s i n v:=by
  intro n v hv hn;refine(Ven s (runE_L0 s i) (λn v=>?_) n v hv hn).1;rw[runE_L0];refine Va5 (λr:Int=>r=v\/(v<(s.size:Int)/\r=runE_L0 s i n (v+1))) (λq=>Va5 (λr:Int=>r=v\/(v<(s.size:Int)/\r=runE_L0 s i n (v+1))) (λ_=>.inr ⟨of_decide_eq_true q,rfl⟩) (λ_=>.inl rfl)) (λq=>.inl rfl)
 unfold runE;obtain⟨n,hn⟩:∃ n,s.size-Int.toNat i=n+1:=⟨s.size-Int.toNat i-1,by omega⟩
 rw[hn,hr];exact hf _ _ kv kv
theorem codP_bd(s:ByteArray)(ka:List Int)(la:List (List Int))(i:Int)(h0:0<=i)(h1:i<s.size)(h:TkOk s la):Bd s i (codP s ka la i):=by
 have hb:=Veo s i h0;unfold codP;refine Va5 (Bd s i) (λ_=>.inl rfl) (λq=>?_)
 have q:=of_decide_eq_false q
 have h2:=codJ_bd (ka:=ka) i h q
 have h3:=Vi3 s i h0 h1;exact Bd.mk kv kv
theorem mtcP_bd(s:ByteArray)(kd:List Int)(ld:List (List Int))(i:Int)(h0:0<=i)(h1:i<s.size)(h:TkOk s ld):Bd s i (mtcP s kd ld i):=by
 have hb:=Veo s (i+1) kv;unfold mtcP;refine Va5 (Bd s i) (λ_=>.inl rfl) (λ_=>Va5 (Bd s i) (λ_=>.inl rfl) (λq=>?_))
 have q:=of_decide_eq_false q
 have h2:=mtcJ_bd (kd:=kd) i h q;exact Bd.mk (by unfold mtcN;omega) (by unfold mtcN;omega)
theorem Vmh(s:ByteArray)(i v6:Int)(k0:Int->(DInline×Int))(h0:0<=i):∀(n:Nat)(w:Int),i<w->Bd s i (autP_L1 s i v6 k0 n w)
 |0,w,_=>.inl rfl
 |n+1,w,h=>by
  rw[autP_L1];refine Va5 (Bd s i) (λ_=>Vmh s i v6 k0 h0 n _ kv) (λ_=>Va5 (Bd s i) (λ_=>.inl rfl) (λq=>?_));obtain⟨q,_⟩:=Vae q
  have q:=of_decide_eq_false q;exact Bd.mk kv kv
theorem Vmj(s:ByteArray)(i:Int)(h0:0<=i):∀(n:Nat)(w:Int),i<w->Bd s i (autP_L0 s i n w)
 |0,w,_=>.inl rfl
 |n+1,w,h=>by
  rw[autP_L0];exact Va5 (Bd s i) (λ_=>Vmj s i h0 n _ kv) (λ_=>Va5 (Bd s i) (λ_=>.inl rfl) (λ_=>Vmh s i _ _ h0 _ _ h))
theorem autP_bd(s:ByteArray)(i:Int)(h0:0<=i):Bd s i (autP s i):=Vmj s i h0 _ _ kv
theorem usL_bd(s t:ByteArray)(i:Int)(h0:0<=i):∀(n:Nat)(v:Int)(l:List ByteArray),i<v->v<=s.size+1->Bd s i (usL s t n v l)
 |0,v,l,_,_=>.inl rfl
 |n+1,v,l,h,h2=>by
  rw[usL];refine Va5 (Bd s i) (λq=>Va5 (Bd s i) (λ_=>.inl rfl) (λ_=>?_)) (λ_=>Va5 (Bd s i) (λ_=>.inl rfl) (λ_=>Bd.mk kv kv))
  have q:=of_decide_eq_true (Va9 q).1
  have hb:=usE_bd s (v+1) kv;exact usL_bd s t i h0 n _ _ kv kv
theorem useP_bd(s:ByteArray)(i:Int)(h0:0<=i)(h1:i<s.size):Bd s i (useP s i):=by
 have hb:=Vfh s (i+2) kv;unfold useP;exact Va5 (Bd s i) (λ_=>.inl rfl) (λ_=>Va5 (Bd s i) (λ_=>.inl rfl) (λ_=>usL_bd s _ i h0 _ _ _ kv kv))
theorem refL_bd(s r:ByteArray)(i:Int)(h0:0<=i)(h1:i<s.size):∀(m:Nat)(n k:Int),2<=k->k<=9->Bd s i (refL r i m n k)
 |0,n,k,_,_=>.inl rfl
 | m+1,n,k,h,h2=>by
  rw[refL];refine Va5 (Bd s i) (λq=>?_) (λ_=>?_)
  ·unfold refC at q
   have q:=of_decide_eq_true (Va9 (Va9 q).1).2;exact refL_bd s r i h0 h1 m _ _ kv kv
  ·unfold refT;exact Va5 (Bd s i) (λ_=>.inl rfl) (λ_=>Va5 (Bd s i) (λ_=>.inl rfl) (λ_=>Bd.mk kv kv))
theorem refP_bd(s:ByteArray)(i:Int)(h0:0<=i)(h1:i<s.size):Bd s i (refP s i):=by
 unfold refP
 repeat' (first|exact .inl rfl|exact refL_bd s _ i h0 h1 _ _ _ kv kv|exact Bd.mk kv kv|refine Va5 (Bd s i) (λ_=>?_) (λ_=>?_))
def Pd(s:ByteArray)(i:Int)(r:DPiece×Bool):Prop:=i<r.1.fTo/\r.1.fTo<=3*s.size+10
theorem Vgb{s:ByteArray}{i:Int}{x:DInline×Int}{r:DPiece×Bool}(hx:Bd s i x)(hr:Pd s i r):Pd s i (fdR x r):=by
 unfold fdR;refine Va5 (Pd s i) (λq=>?_) (λ_=>hr)
 have q:=of_decide_eq_true q;rcases hx with e|e
 ·omega
 ·exact e
theorem Vnn{s:ByteArray}{i e:Int}(h:i<e)(h2:e<=3*s.size+10):Pd s i (litP s i e,true):=⟨h,h2⟩
theorem nxR_pd(s:ByteArray)(i:Int)(h0:0<=i)(h1:i<s.size):Pd s i (nxR s i):=by
 have nb:=Vct s i h0 h1;exact Vnn kv kv
theorem pcR_pd(s:ByteArray)(i k e:Int)(g:Bool)(h:i<e)(h2:e<=3*s.size+10):Pd s i (pcR k g e):=⟨h,h2⟩
theorem runP_pd(s:ByteArray)(ka:List Int)(va:List AV)(kd:List Int)(vd:List AV)(i:Int)(h0:0<=i)(h1:i<s.size):Pd s i (runP s ka va kd vd i):=by
 have h2:=Vi3 s i h0 h1
 have h3:=Veo s i h0;unfold runP;exact Va5 (Pd s i) (λ_=>Vnn kv kv) (λ_=>⟨by show i<runE s i;omega,by show runE s i<=_;omega⟩)
theorem skpS_lt(s:ByteArray)(i:Int)(h0:0<=i)(h1:i<s.size)(hb:BYi s i=32):i+1<=skpS s i:=by
 have hd:decide (i<((Za s:Nat):Int))=true:=decide_eq_true h1
 have he:(((byt s (Int.toNat i):Nat):Int)==32)=true:=by unfold BYi at hb;rw[hb];rfl
 have hr:∀ n,skpS_L0 s i (n+1) i=skpS_L0 s i n (i+1):=λn=>by rw[skpS_L0,hd,he];rfl
 have hf:∀(n:Nat)(v:Int),0<=v->s.size-v.toNat<n->v<=skpS_L0 s i n v:=by
  intro n v hv hn;refine(Ven s (skpS_L0 s i) (λn v=>?_) n v hv hn).1;rw[skpS_L0];exact Va5 (λr:Int=>r=v\/(v<(s.size:Int)/\r=skpS_L0 s i n (v+1))) (λq=>.inr ⟨of_decide_eq_true (Va9 q).1,rfl⟩) (λq=>.inl rfl)
 unfold skpS;obtain⟨n,hn⟩:∃ n,s.size-Int.toNat i=n+1:=⟨s.size-Int.toNat i-1,by omega⟩
 rw[hn,hr];exact hf _ _ kv kv
theorem skpS_at(s:ByteArray)(i:Int)(h1:i<s.size)(hb:BYi s i=10):skpS s i=i:=by
 have hd:decide (i<((Za s:Nat):Int))=true:=decide_eq_true h1
 have he:(((byt s (Int.toNat i):Nat):Int)==32)=false:=by unfold BYi at hb;rw[hb];rfl
 unfold skpS;rw[skpS_L0,hd,he];rfl
theorem spR_pd(s:ByteArray)(i:Int)(h0:0<=i)(h1:i<s.size)(hb:BYi s i=32\/BYi s i=10):Pd s i (spR s i):=by
 have hs:=Vbw s i h0
 have hs2:=Vbw s (skpS s i+1) kv
 have hN:=nxR_pd s i h0 h1
 have h2:Pd s i (fdR (coI 2 ⟨#[]⟩,skpS s (skpS s i+1)) (nxR s i)):=Vgb (Bd.mk kv kv) hN;unfold spR;rcases hb with hb|hb
 ·have h3:=skpS_lt s i h0 h1 hb;exact Va5 (Pd s i) (λ_=>Vnn kv kv) (λ_=>h2)
 ·have h3:=skpS_at s i h1 hb;refine Va5 (Pd s i) (λq=>?_) (λ_=>h2);exfalso;rw[h3,hb]at q
  have hd:decide (i>=((Za s:Nat):Int))=false:=decide_eq_false kv;rw[hd]at q;exact absurd q gj
theorem pceG_pd(s:ByteArray)(ka:List Int)(la:List (List Int))(kd:List Int)(ld:List (List Int))(i:Int)(h0:0<=i)(h1:i<s.size)(hta:TkOk s la)(htd:TkOk s ld):Pd s i (pceG s ka la kd ld i):=by
 have hN:=nxR_pd s i h0 h1
 have hE:=Vi3 s i h0 h1
 have hE2:=Veo s i h0;unfold pceG;refine Va5 (Pd s i) (λ_=>Vgb (bslP_bd s i h0 h1) hN) (λ_=>?_);refine Va5 (Pd s i) (λq=>spR_pd s i h0 h1 (.inl (eq_of_beq q))) (λ_=>?_);refine Va5 (Pd s i) (λq=>spR_pd s i h0 h1 (.inr (eq_of_beq q))) (λ_=>?_);refine Va5 (Pd s i) (λ_=>Vgb (refP_bd s i h0 h1) hN) (λ_=>?_);refine Va5 (Pd s i) (λ_=>Vgb (mtcP_bd s kd ld i h0 h1 htd) (Vgb (dolG_bd s i h0 h1) hN)) (λ_=>?_);refine Va5 (Pd s i) (λ_=>Vgb (codP_bd s ka la i h0 h1 hta) (Vnn kv kv)) (λ_=>?_);refine Va5 (Pd s i) (λ_=>Vgb (autP_bd s i h0) hN) (λ_=>?_);refine Va5 (Pd s i) (λ_=>Vgb (useP_bd s i h0 h1) hN) (λ_=>?_);refine Va5 (Pd s i) (λ_=>Vgb (nmdP_bd s i h0 h1) (Vgb (cteG_bd s i h0 h1) (pcR_pd s i _ _ _ kv kv))) (λ_=>?_);refine Va5 (Pd s i) (λ_=>Va5 (Pd s i) (λ_=>pcR_pd s i _ _ _ kv kv) (λ_=>hN)) (λ_=>?_);refine Va5 (Pd s i) (λ_=>pcR_pd s i _ _ _ kv kv) (λ_=>?_);refine Va5 (Pd s i) (λ_=>runP_pd s ka _ kd _ i h0 h1) (λ_=>?_);refine Va5 (Pd s i) (λ_=>runP_pd s ka _ kd _ i h0 h1) (λ_=>?_);exact Va5 (Pd s i) (λ_=>runP_pd s ka _ kd _ i h0 h1) (λ_=>hN)
def idxS_L0(s:List ByteArray)(v:ByteArray):Nat->Nat->Int
 |0,_=>default
 |n0+1,v8=>cond (decide (((v8:Nat):Int)<((lenM Vay s:Nat):Int))) (cond (eqs v (el s v8)) ((v8:Nat):Int) (idxS_L0 s v n0 (v8+1))) (-1)
def idxS(s:List ByteArray)(v:ByteArray):Int:=idxS_L0 s v ((Zu s-0)+1) 0
theorem idxS_to(s:List ByteArray)(v:ByteArray)(hs:s.length<=1073741824):Va2 Tryz.prog 316 [(jL (s.map Vay)),(jS v)] [] [] (jI (idxS s v)) [] []:=by
 refine BEG (λr:Int=>(jI r)) (idxS s v) Tryz.func316 kx ?_;refine UF (idxS.eq_1 ..) ?_;refine GO (tn 4 z) kx ?_;refine LP (λN M S=>∃ v8:Nat,(Zu s-v8<N)/\M=idxS_L0 s v N v8/\S=(sx 19 [(0,(jL (s.map Vay))),(1,(jS v)),(7,(jI ((lenM Vay s:Nat):Int))),(8,(jI ((v8:Nat):Int)))] [] [])) kx ⟨_,by omega,rfl,rfl⟩ (WK kx) ?_;rintro n0 M S ⟨v8,hF0,rfl,rfl⟩;obtain⟨n0,rfl⟩:∃ k,n0=k+1:=⟨n0-1,by omega⟩
 refine UF (idxS_L0.eq_2 ..) ?_;refine GO (tn 1 z) kx ?_;refine CSd (λh1p h1=>?_) (λh1p h1=>?_)
 ·have:=Va6 Vay s;refine GO (kb h1 (tn 5 (ke (el_strAV s v8 (by first|omega|(simp only[Va6,true_and];omega))) (tn 2 z)))) kx ?_;refine CS (λh2=>?_) (λh2=>?_)
  ·refine GO (kb h2 (tn 2 z)) kx ?_;refine OUT z kx ?_;exact EN kx
  ·refine GO (kb h2 (kn (wrE (((v8:Nat):Int)+1) ((v8+1:Nat):Int) kv) (tn 1 z))) kx ?_;exact AG ⟨_,by omega,rfl,rfl⟩ (WK kx) kx (Zf _)
 ·have:=Va6 Vay s;refine GO (kb h1 z) kx ?_;refine OUT (tn 1 z) kx ?_;exact EN kx
def ctnS(s:List ByteArray)(v:ByteArray):Bool:=decide ((idxS s v:Int)>=0)
theorem ctnS_to(s:List ByteArray)(v:ByteArray)(hs:s.length<=1073741824):Va2 Tryz.prog 314 [(jL (s.map Vay)),(jS v)] [] [] (jB (ctnS s v)) [] []:=by
 refine BEG (λr:Bool=>(jB r)) (ctnS s v) Tryz.func314 kx ?_;refine UF (ctnS.eq_1 ..) ?_;refine GO (tn 3 (kc (idxS_to s v ky) (tn 2 z))) kx ?_;exact EN kx
def getG_L0(a:DAttr)(key:ByteArray):Nat->Nat->(ByteArray×Bool)
 |0,_=>default
 |n0+1,v11=>cond (decide (((v11:Nat):Int)<((lenM Vbh a.fPairs:Nat):Int))) (cond (eqs ((el a.fPairs v11).fKey) key) ((el a.fPairs v11).fValue,true) (getG_L0 a key n0 (v11+1))) (⟨#[]⟩,false)
def getG(a:DAttr)(key:ByteArray):(ByteArray×Bool):=getG_L0 a key ((Zu a.fPairs-0)+1) 0
theorem getG_to(a:DAttr)(key:ByteArray)(hc:a.fClasses.length<=1073741824)(hp:a.fPairs.length<=1073741824):Va2 Tryz.prog 304 [(.av (cAttr a)),(jS key)] [] [] (.av (.tup [(vS ((getG a key).1)),(vB ((getG a key).2))])) [] []:=by
 refine BEG (λr:(ByteArray×Bool)=>(.av (.tup [(vS r.1),(vB r.2)]))) (getG a key) Tryz.func304 kx ?_;refine UF (getG.eq_1 ..) ?_;refine gO (tn 7 z) ?_;refine LP (λN M S=>∃ v11:Nat,(Zu a.fPairs-v11<N)/\M=getG_L0 a key N v11/\S=(sx 22 [(1,(jS key)),(9,(jL (a.fPairs.map Vbh))),(10,(jI ((lenM Vbh a.fPairs:Nat):Int))),(11,(jI ((v11:Nat):Int)))] [] [])) kx ⟨_,by omega,rfl,rfl⟩ (WK kx) ?_;rintro n0 M S ⟨v11,hF0,rfl,rfl⟩;obtain⟨n0,rfl⟩:∃ k,n0=k+1:=⟨n0-1,by omega⟩
 refine UF (getG_L0.eq_2 ..) ?_;refine gO (tn 1 z) ?_;refine CSd (λh1p h1=>?_) (λh1p h1=>?_)
 ·have:=Va6 Vbh a.fPairs;refine gO (kb h1 (ke (el_aPair a.fPairs v11 (by first|omega|(simp only[Va6,true_and];omega))) (tn 7 z))) ?_;refine CS (λh2=>?_) (λh2=>?_)
  ·refine gO (kb h2 (tn 4 z)) ?_;refine OUT z kx ?_;exact EN kx
  ·refine gO (kb h2 (kn (wrE (((v11:Nat):Int)+1) ((v11+1:Nat):Int) kv) (tn 1 z))) ?_;exact AG ⟨_,by omega,rfl,rfl⟩ (WK kx) kx (Zf _)
 ·have:=Va6 Vbh a.fPairs;refine gO (kb h1 z) ?_;refine OUT (tn 2 z) kx ?_;exact EN kx
def hasG(a:DAttr)(c:ByteArray):Bool:=ctnS a.fClasses c
theorem hasG_to(a:DAttr)(c:ByteArray)(hc:a.fClasses.length<=1073741824)(hp:a.fPairs.length<=1073741824):Va2 Tryz.prog 303 [(.av (cAttr a)),(jS c)] [] [] (jB (hasG a c)) [] []:=by
 refine BEG (λr:Bool=>(jB r)) (hasG a c) Tryz.func303 kx ?_;refine UF (hasG.eq_1 ..) ?_;refine gO (tn 5 (kc (ctnS_to a.fClasses c ky) (tn 1 z))) ?_;exact EN kx
def kA:Key:=(1301,10)
def kP:Key:=(1302,169)
def atG(i:Nat)(a:DAttr):Nat×ABox:=(i,.cells 39 [jS a.fID,.own kA a.fClasses.length 1 (a.fClasses.map Vay),.own kP a.fPairs.length 2 (a.fPairs.map Vbh)])
def gnA(a:DAttr):List (Key×Nat):=[(kA,a.fClasses.length),(kP,a.fPairs.length)]
theorem okAG(i:Nat)(a:DAttr):∀ p∈[atG i a],∀s∈p.2.svs,OkSV [i] (gnA a) s:=by
 intro p hp s hs;simp only[Zb,List.not_mem_nil,or_false]at hp;subst hp;simp only[atG,ABox.svs,Zb,List.not_mem_nil,or_false]at hs;rcases hs with rfl|rfl|rfl
 ·simp[OkSV,SV.keys]
 ·simp[OkSV,gnA,kA,kP,List.lookup]
 ·simp[OkSV,gnA,kA,kP,List.lookup];rfl
def Few(a:DAttr):Prop:=a.fClasses.length<=40/\a.fPairs.length<=40
def addC(a:DAttr)(y:ByteArray):DAttr:=⟨a.fID,a.fClasses++[y],a.fPairs⟩
def addP(a:DAttr)(y v:ByteArray):DAttr:=⟨a.fID,a.fClasses,a.fPairs++[⟨y,v⟩]⟩
def aclG(a:DAttr)(y:ByteArray):Int×DAttr:=cond (hasG a y) (7,a) (cond (decide (((a.fClasses.map Vay).length:Int)>=32)) (3,a) (0,addC a y))
def aprG(a:DAttr)(y v:ByteArray):Int×DAttr:=cond (getG a y).2 (7,a) (cond (decide (((a.fPairs.map Vbh).length:Int)>=32)) (3,a) (0,addP a y v))
theorem aclG_to(a:DAttr)(y:ByteArray)(ha:Few a):Va2 Tryz.prog 282 [.ptr 1000 0,jS y] [atG 1000 a] (gnA a) (jI (aclG a y).1) [atG 1000 (aclG a y).2] (gnA (aclG a y).2):=by
 have hh:=hasG_to a y (by have:=ha.1;omega) (by have:=ha.2;omega);unfold aclG;cases hb:hasG a y with
 |true=>
  simp only[cond_true];refine BEGb (λ_:Unit=>jI 7) () Tryz.func282 kx (by simp[atG]) (by simp[kA,kP,gnA]) (by simp[OkSV,SV.keys,atG]) (okAG 1000 a) (by simp[OkSV,SV.keys]) (okAG 1000 a) rfl rfl ?_ (by simp[atG]);refine gO (tn 5 (kc hh (kb hb (tn 1 z)))) ?_;refine ENb kx ?_ ?_
  all_goals (intro p hp;simp only[gnA,Zb,List.not_mem_nil,or_false]at hp;rcases hp with rfl|rfl <;>kernel_rfl)
 | false=>
  simp only[cond_false];cases hd:decide (((a.fClasses.map Vay).length:Int)>=32)with
  |true=>
   simp only[cond_true];refine BEGb (λ_:Unit=>jI 3) () Tryz.func282 kx (by simp[atG]) (by simp[kA,kP,gnA]) (by simp[OkSV,SV.keys,atG]) (okAG 1000 a) (by simp[OkSV,SV.keys]) (okAG 1000 a) rfl rfl ?_ (by simp[atG]);refine gO (tn 5 (kc hh (kb hb (tn 6 (kb hd (tn 1 z)))))) ?_;refine ENb kx ?_ ?_
   all_goals (intro p hp;simp only[gnA,Zb,List.not_mem_nil,or_false]at hp;rcases hp with rfl|rfl <;>kernel_rfl)
  | false=>
   simp only[cond_false]
   have hu:Uni 1 [vS y]:=Vmw rfl rfl
   have hap:a.fClasses.length=a.fClasses.length/\Uni 1 [vS y]/\((a.fClasses.map Vay).length+([vS y]:List AV).length)*16<=140737488355328:=⟨rfl,hu,by have:=ha.1;simp;omega⟩
   have e1:(addC a y).fClasses.length=a.fClasses.length+1:=by simp[addC]
   have e2:((a.fClasses.map Vay)++[vS y]:List AV)=((addC a y).fClasses).map Vay:=by simp[addC,Vay]
   refine BEGb (λ_:Unit=>jI 0) () Tryz.func282 kx (by simp[atG]) (by simp[kA,kP,gnA]) (by simp[OkSV,SV.keys,atG]) (okAG 1000 a) (by simp[OkSV,SV.keys]) (okAG 1000 (addC a y)) rfl rfl ?_ (by simp[atG]);refine gO (tn 5 (kc hh (kb hb (tn 6 (kb hd (tn 6 (kp hu (kp hap (kw e2 (tn 4 z)))))))))) ?_;refine ENb kx ?_ ?_
   ·intro p hp;simp only[Zb,List.not_mem_nil,or_false]at hp;subst hp;unfold atG;rw[e1];kernel_rfl
   ·intro p hp;simp only[gnA,Zb,List.not_mem_nil,or_false]at hp;rcases hp with rfl|rfl
    ·rw[e1];kernel_rfl
    ·kernel_rfl
theorem aprG_to(a:DAttr)(y v:ByteArray)(ha:Few a):Va2 Tryz.prog 284 [.ptr 1000 0,jS y,jS v] [atG 1000 a] (gnA a) (jI (aprG a y v).1) [atG 1000 (aprG a y v).2] (gnA (aprG a y v).2):=by
 have hh:=getG_to a y (by have:=ha.1;omega) (by have:=ha.2;omega);unfold aprG;cases hb:(getG a y).2 with
 |true=>
  simp only[cond_true];refine BEGb (λ_:Unit=>jI 7) () Tryz.func284 kx (by simp[atG]) (by simp[kA,kP,gnA]) (by simp[OkSV,SV.keys,atG]) (okAG 1000 a) (by simp[OkSV,SV.keys]) (okAG 1000 a) rfl rfl ?_ (by simp[atG]);refine gO (tn 5 (kc hh (tn 6 (kb hb (tn 1 z))))) ?_;refine ENb kx ?_ ?_
  all_goals (intro p hp;simp only[gnA,Zb,List.not_mem_nil,or_false]at hp;rcases hp with rfl|rfl <;>kernel_rfl)
 | false=>
  simp only[cond_false];cases hd:decide (((a.fPairs.map Vbh).length:Int)>=32)with
  |true=>
   simp only[cond_true];refine BEGb (λ_:Unit=>jI 3) () Tryz.func284 kx (by simp[atG]) (by simp[kA,kP,gnA]) (by simp[OkSV,SV.keys,atG]) (okAG 1000 a) (by simp[OkSV,SV.keys]) (okAG 1000 a) rfl rfl ?_ (by simp[atG]);refine gO (tn 5 (kc hh (tn 6 (kb hb (tn 6 (kb hd (tn 1 z))))))) ?_;refine ENb kx ?_ ?_
   all_goals (intro p hp;simp only[gnA,Zb,List.not_mem_nil,or_false]at hp;rcases hp with rfl|rfl <;>kernel_rfl)
  | false=>
   simp only[cond_false]
   have hu:Uni 2 [Vbh ⟨y,v⟩]:=Vmw rfl rfl
   have hap:a.fPairs.length=a.fPairs.length/\Uni 2 [Vbh ⟨y,v⟩]/\((a.fPairs.map Vbh).length+([Vbh ⟨y,v⟩]:List AV).length)*32<=140737488355328:=⟨rfl,hu,by have:=ha.2;simp;omega⟩
   have e1:(addP a y v).fPairs.length=a.fPairs.length+1:=by simp[addP]
   have e2:((a.fPairs.map Vbh)++[Vbh ⟨y,v⟩]:List AV)=((addP a y v).fPairs).map Vbh:=by simp[addP]
   refine BEGb (λ_:Unit=>jI 0) () Tryz.func284 kx (by simp[atG]) (by simp[kA,kP,gnA]) (by simp[OkSV,SV.keys,atG]) (okAG 1000 a) (by simp[OkSV,SV.keys]) (okAG 1000 (addP a y v)) rfl rfl ?_ (by simp[atG]);refine gO (tn 5 (kc hh (tn 6 (kb hb (tn 6 (kb hd (tn 8 (kp hu (kp hap (kw e2 (tn 4 z))))))))))) ?_;refine ENb kx ?_ ?_
   ·intro p hp;simp only[Zb,List.not_mem_nil,or_false]at hp;subst hp;unfold atG;rw[e1];kernel_rfl
   ·intro p hp;simp only[gnA,Zb,List.not_mem_nil,or_false]at hp;rcases hp with rfl|rfl
    ·kernel_rfl
    ·rw[e1];kernel_rfl
theorem byt_ne0{s:ByteArray}{j:Nat}(h:byt s j≠0):j<s.size:=by
 rcases Zj j s.size with h2|h2
 ·exact h2
 ·exfalso;apply h
  show(s.data.getD j 0).toNat=0
  have:s.data[j]? =none:=Array.getElem?_eq_none h2;rw[Array.getD_eq_getD_getElem?,this];rfl
theorem rdv0_to(s:ByteArray)(i:Int)(hs:s.size<=1073741824)(h0:0<=i)(h1:i+1<s.size)(hb:BYi s i=34)(hb1:BYi s (i+1)=34):Va2 Tryz.prog 283 [jS s,jI i] [] [] (.av (.tup [vS e0,vI (i+2),vB (clnG e0)])) [] []:=by
 have hst:Va2 Tryz.prog 38 [.ptr 7 0] [(7,.cells 80 [.av (.val (.pointer none)),.nil])] [] (jS e0) [(7,.cells 80 [.av (.val (.pointer none)),.nil])] []:=Vcq kx (Vaa (Vaf (7,0) (1000,0) rfl) (Vmo (.av (.val (.pointer none)))))
 have hcl:=clnG_to e0 gj
 have d1:decide (i>=((Za s:Nat):Int))=false:=decide_eq_false kv
 have d2:(BYi s i !=34)=false:=by rw[hb];rfl
 have d3:decide (i+1<((Za s:Nat):Int))=true:=decide_eq_true kv
 have d4:(BYi s (i+1)==34)=true:=by rw[hb1];rfl
 have w1:=wrE (i+1) (i+1) kv
 have w2:=wrE (i+1+1) (i+2) kv;refine bG Tryz.func283 ?_;refine gO (tn 8 (kb d1 (tn 1 (kb d1 (tn 1 (kb d1 (kp (ib s i ⟨h0,by omega⟩) (kb d1 (tn 1 (kb d1 (kb d2 (tn 2 (kn w1 (tn 1 z)))))))))))))) ?_;refine uN (sx 78 [(0,jS s),(1,jI i),(7,.ptr 7 0),(8,jI (i+1))] [(7,.cells 80 [.av (.val (.pointer none)),.nil])] []) 1 ?_;refine gO (tn 4 (kb d3 (tn 2 (kp (ib s (i+1) ⟨by omega,by omega⟩) (tn 2 (kb d4 (kg hst trivial (tn 1 (kn w2 (kg hst trivial (kc hcl (tn 3 z)))))))))))) ?_;refine uO z ?_;exact eN
def rdvG(s:ByteArray)(i:Int):ByteArray×Int×Bool:=cond (cond (BYi s i==34) (BYi s (i+1)==34) false) (e0,i+2,clnG e0) (rdvN s i)
theorem rdvG_to(s:ByteArray)(i:Int)(hs:s.size<=1073741824)(h0:0<=i)(h1:i<=s.size):Va2 Tryz.prog 283 [jS s,jI i] [] [] (.av (.tup [vS (rdvG s i).1,vI (rdvG s i).2.1,vB (rdvG s i).2.2])) [] []:=by
 unfold rdvG;cases hb:cond (BYi s i==34) (BYi s (i+1)==34) false with
 | true=>
  simp only[cond_true]
  have hq:BYi s i=34/\BYi s (i+1)=34:=by
   cases h:BYi s i==34 with
   |false=>rw[h]at hb;simp at hb
   |true=>rw[h,cond_true]at hb;exact⟨eq_of_beq h,eq_of_beq hb⟩
  refine rdv0_to s i hs h0 ?_ hq.1 hq.2
  have h2:=hq.2;unfold BYi at h2
  have:byt s (Int.toNat (i+1))≠0:=by omega
  have:=byt_ne0 this;omega
 |false=>
  simp only[cond_false];refine rdvN_to s i hs h0 h1 (λh=>?_)
  have h':(BYi s i==34)=true:=by unfold BYi;rw[h];rfl
  rw[h',cond_true]at hb;exact ne_of_beq_false hb
def TV(s:ByteArray)(i:Int)(r:ByteArray×Int×Bool):Prop:=TB s r/\(r.2.2=true->i<=r.2.1)
theorem TV0(s:ByteArray)(i:Int):TV s i (⟨#[]⟩,0,false):=⟨TB0 s,λh=>by simp at h⟩
theorem Vi5(s:ByteArray)(i:Int)(h0:0<=i):∀(n:Nat)(v:Int)(b:ByteArray),i+1<=v->v<=s.size+1->(b.size:Int)<=v-i-1->s.size-v.toNat<n->TV s i (rdvN_L0 s i n v b)
 |0,v,b,_,_,_,h=>by omega
 | n+1,v,b,h1,h2,h3,h4=>by
  rw[rdvN_L0];refine Va5 (TV s i) (λq=>?_) (λ_=>TV0 s i)
  have q:=of_decide_eq_true q;refine Va5 (TV s i) (λ_=>⟨⟨by show 0<=v+1;omega,by show v+1<=_;omega,by show(b.size:Int)<=_;omega⟩,λ_=>by show i<=v+1;omega⟩) (λ_=>Va5 (TV s i) (λ_=>?_) (λ_=>?_))
  ·refine Va5 (TV s i) (λ_=>TV0 s i) (λq2=>?_);obtain⟨q2,_⟩:=Vae q2
   have q2:=of_decide_eq_false q2;exact Vi5 s i h0 n _ _ kv kv (by rw[size_push];omega) kv
  ·exact Vi5 s i h0 n _ _ kv kv (by rw[size_push];omega) kv
theorem rdvG_bd(s:ByteArray)(i:Int)(h0:0<=i)(h1:i<=s.size):TV s i (rdvG s i):=by
 unfold rdvG;refine Va5 (TV s i) (λq=>?_) (λ_=>?_)
 ·have hq:BYi s (i+1)=34:=by
   cases h:BYi s i==34 with
   |false=>rw[h]at q;simp at q
   |true=>rw[h,cond_true]at q;exact eq_of_beq q
  unfold BYi at hq
  have:byt s (Int.toNat (i+1))≠0:=by omega
  have:=byt_ne0 this;exact⟨⟨by show 0<=i+2;omega,by show i+2<=_;omega,by show((0:Nat):Int)<=_;omega⟩,λ_=>by show i<=i+2;omega⟩
 ·unfold rdvN;refine Va5 (TV s i) (λq=>?_) (λq=>?_)
  ·have h2:=Vjl s (min i ((Za s:Nat):Int)) kv
   have h3:=Vag s (Int.toNat (min i ((Za s:Nat):Int))) (Int.toNat (wrdA s (min i ((Za s:Nat):Int))));exact⟨⟨by show 0<=wrdA s _;omega,by show wrdA s _<=_;omega,by show((Za (ByteArray.extract s _ _):Nat):Int)<=_;rw[h3];omega⟩,λ_=>by show i<=wrdA s _;omega⟩
  ·obtain⟨q1,_⟩:=Vae q
   have q1:=of_decide_eq_false q1;exact Vi5 s i h0 _ _ _ kv kv (by show((0:Nat):Int)<=_;omega) kv
def nmI(s:ByteArray)(i:Int):Int:=cond (cond (BYi s i==35) true (BYi s i==46)) (i+1) i
def toI(s:ByteArray)(i:Int):Int:=wrdA s (nmI s i)
def naI(s:ByteArray)(i:Int):ByteArray:=ByteArray.extract s (Int.toNat (nmI s i)) (Int.toNat (toI s i))
def setI(a:DAttr)(y:ByteArray):DAttr:=⟨y,a.fClasses,a.fPairs⟩
def rdiV(s:ByteArray)(i:Int)(a:DAttr):(Int×Int)×DAttr:=cond (!(rdvG s (toI s i+1)).2.2) ((0,5),a) (((rdvG s (toI s i+1)).2.1,(aprG a (naI s i) (rdvG s (toI s i+1)).1).1),(aprG a (naI s i) (rdvG s (toI s i+1)).1).2)
def rdiE(s:ByteArray)(i:Int)(a:DAttr):(Int×Int)×DAttr:=cond (cond (decide (toI s i>=((Za s:Nat):Int))) true (BYi s (toI s i) !=61)) ((0,5),a) (rdiV s i a)
def rdiG(s:ByteArray)(i:Int)(a:DAttr):(Int×Int)×DAttr:=
 cond (!namA (naI s i)) ((0,5),a) (cond (BYi s i==35) (cond (!eqs a.fID e0) ((0,7),a) ((toI s i,0),setI a (naI s i)))
  (cond (BYi s i==46) ((toI s i,(aclG a (naI s i)).1),(aclG a (naI s i)).2) (rdiE s i a)))
theorem rdiG_to(s:ByteArray)(i:Int)(a:DAttr)(ha:Few a)(hs:s.size<=1073741824)(h0:0<=i)(h1:i<s.size):
  Va2 Tryz.prog 243 [.ptr 1000 0,jS s,jI i] [atG 1000 a] (gnA a) (.av (.tup [vI (rdiG s i a).1.1,vI (rdiG s i a).1.2])) [atG 1000 (rdiG s i a).2] (gnA (rdiG s i a).2):=by
 have hib:=ib s i ⟨h0,h1⟩
 have hn1:i<=nmI s i/\nmI s i<=s.size:=by unfold nmI;cases(cond (BYi s i==35) true (BYi s i==46)) <;>simp <;>omega
 have hto:=Vjl s (nmI s i) kv
 have hto2:nmI s i<=toI s i/\toI s i<=s.size:=by unfold toI;omega
 have k1:Va2 Tryz.prog 227 [jS s,jI (nmI s i)] [] [] (jI (toI s i)) [] []:=wrdA_to s (nmI s i) hs kv kv
 have hsl:0<=nmI s i/\nmI s i<=toI s i/\toI s i<=((Za s:Nat):Int):=⟨by omega,hto2.1,hto2.2⟩
 have hnz:(naI s i).size<=s.size:=by unfold naI;rw[Vag];omega
 have k2:=Vic (naI s i) kv
 have hbeg:∀(z:Int×Int)(a':DAttr),Nx Tryz.prog (KE Tryz.prog Tryz.f243 (λ_:Unit=>.av (.tup [vI z.1,vI z.2])) [atG 1000 a'] (gnA a')) () (Go.Eng.start (Vbc Tryz.f243) ⟨[.ptr 1000 0,jS s,jI i]++List.replicate (Tryz.f243.ntmps-[SV.ptr 1000 0,jS s,jI i].length) .junk,[atG 1000 a],gnA a⟩)->
   Va2 Tryz.prog 243 [.ptr 1000 0,jS s,jI i] [atG 1000 a] (gnA a) (.av (.tup [vI z.1,vI z.2])) [atG 1000 a'] (gnA a'):=λz a' h=>
  BEGb (λ_:Unit=>.av (.tup [vI z.1,vI z.2])) () Tryz.func243 kx (by simp[atG]) (by simp[kA,kP,gnA]) (by simp[OkSV,SV.keys,atG]) (okAG 1000 a) (by simp[OkSV,SV.keys]) (okAG 1000 a') rfl rfl h (by simp[atG])
 have w1:IntKind.i64.wrap (i+1)=i+1:=wrE (i+1) (i+1) kv;unfold rdiG rdiE rdiV;cases c1:BYi s i==35 with
 | true=>
  have en:nmI s i=i+1:=by unfold nmI;rw[c1];rfl
  rw[en]at k1 hsl
  have en2:naI s i=(ByteArray.extract s (Int.toNat (i+1)) (Int.toNat (toI s i))):=by unfold naI;rw[en]
  rw[en2]at k2 ⊢;cases hn:namA (ByteArray.extract s (Int.toNat (i+1)) (Int.toNat (toI s i)))with
  |false=>
   simp only[Zm,cond_true];refine hbeg (0,5) a ?_;refine gO (tn 4 (kp hib (tn 4 (kb c1 (kb c1 (kb c1 (kb (b:=true) (d:=true) rfl (tn 1 (kn w1 (tn 3 (kc k1 (tn 4 (kp hsl (tn 2 (kc k2 (tn 1 (kb (b:= !namA (ByteArray.extract s (Int.toNat (i+1)) (Int.toNat (toI s i)))) (d:=true) (by rw[hn];rfl) (tn 2 z)))))))))))))))))) ?_;refine ENb kx ?_ ?_
   all_goals (intro p hp;simp only[gnA,Zb,List.not_mem_nil,or_false]at hp;rcases hp with rfl|rfl <;>kernel_rfl)
  | true=>
   simp only[Zo,cond_true,cond_false];cases he:eqs a.fID e0 with
   |false=>
    simp only[Zm,cond_true];refine hbeg (0,7) a ?_;refine gO (tn 4 (kp hib (tn 4 (kb c1 (kb c1 (kb c1 (kb (b:=true) (d:=true) rfl (tn 1 (kn w1 (tn 3 (kc k1 (tn 4 (kp hsl (tn 2 (kc k2 (tn 1 (kb (b:= !namA (ByteArray.extract s (Int.toNat (i+1)) (Int.toNat (toI s i)))) (d:=false) (by rw[hn];rfl) (tn 3 (kb c1 (tn 5 (kb (b:= !eqs a.fID e0) (d:=true) (by rw[he];rfl) (tn 2 z)))))))))))))))))))))) ?_;refine ENb kx ?_ ?_
    all_goals (intro p hp;simp only[gnA,Zb,List.not_mem_nil,or_false]at hp;rcases hp with rfl|rfl <;>kernel_rfl)
   |true=>
    simp only[Zo,cond_false];refine hbeg (toI s i,0) (setI a (ByteArray.extract s (Int.toNat (i+1)) (Int.toNat (toI s i)))) ?_;refine gO (tn 4 (kp hib (tn 4 (kb c1 (kb c1 (kb c1 (kb (b:=true) (d:=true) rfl (tn 1 (kn w1 (tn 3 (kc k1 (tn 4 (kp hsl (tn 2 (kc k2 (tn 1 (kb (b:= !namA (ByteArray.extract s (Int.toNat (i+1)) (Int.toNat (toI s i)))) (d:=false) (by rw[hn];rfl) (tn 3 (kb c1 (tn 5 (kb (b:= !eqs a.fID e0) (d:=false) (by rw[he];rfl) (tn 8 z)))))))))))))))))))))) ?_;refine ENb kx ?_ ?_
    all_goals (intro p hp;simp only[gnA,Zb,List.not_mem_nil,or_false]at hp;rcases hp with rfl|rfl <;>kernel_rfl)
 | false=>
  simp only[cond_false];cases c2:BYi s i==46 with
  | true=>
   have en:nmI s i=i+1:=by unfold nmI;rw[c1,c2];rfl
   have c12:cond (BYi s i==35) true (BYi s i==46)=true:=by rw[c1,c2];rfl
   rw[en]at k1 hsl
   have en2:naI s i=(ByteArray.extract s (Int.toNat (i+1)) (Int.toNat (toI s i))):=by unfold naI;rw[en]
   rw[en2]at k2 ⊢;simp only[cond_true];cases hn:namA (ByteArray.extract s (Int.toNat (i+1)) (Int.toNat (toI s i)))with
   |false=>
    simp only[Zm,cond_true];refine hbeg (0,5) a ?_;refine gO (tn 4 (kp hib (tn 4 (kb c1 (tn 1 (kb c1 (tn 1 (kb c1 (kb c2 (tn 1 (kn w1 (tn 3 (kc k1 (tn 4 (kp hsl (tn 2 (kc k2 (tn 1 (kb (b:= !namA (ByteArray.extract s (Int.toNat (i+1)) (Int.toNat (toI s i)))) (d:=true) (by rw[hn];rfl) (tn 2 z)))))))))))))))))))) ?_;refine ENb kx ?_ ?_
    all_goals (intro p hp;simp only[gnA,Zb,List.not_mem_nil,or_false]at hp;rcases hp with rfl|rfl <;>kernel_rfl)
   |true=>
    simp only[Zo,cond_false]
    have k3:=aclG_to a (ByteArray.extract s (Int.toNat (i+1)) (Int.toNat (toI s i))) ha;refine hbeg (toI s i,(aclG a (ByteArray.extract s (Int.toNat (i+1)) (Int.toNat (toI s i)))).1) (aclG a (ByteArray.extract s (Int.toNat (i+1)) (Int.toNat (toI s i)))).2 ?_;refine gO (tn 4 (kp hib (tn 4 (kb c1 (tn 1 (kb c1 (tn 1 (kb c1 (kb c2 (tn 1 (kn w1 (tn 3 (kc k1 (tn 4 (kp hsl (tn 2 (kc k2 (tn 1 (kb (b:= !namA (ByteArray.extract s (Int.toNat (i+1)) (Int.toNat (toI s i)))) (d:=false) (by rw[hn];rfl) (tn 3 (kb c1 (tn 2 (kb c2 (tn 3 (kg k3 (show a.fClasses.length=a.fClasses.length/\a.fPairs.length=a.fPairs.length/\True from⟨rfl,rfl,trivial⟩) (tn 2 z)))))))))))))))))))))))))) ?_;refine ENb kx ?_ ?_
    all_goals (intro p hp;simp only[gnA,Zb,List.not_mem_nil,or_false]at hp;rcases hp with rfl|rfl <;>kernel_rfl)
  | false=>
   have en:nmI s i=i:=by unfold nmI;rw[c1,c2];rfl
   have c12:cond (BYi s i==35) true (BYi s i==46)=false:=by rw[c1,c2];rfl
   rw[en]at k1 hsl
   have en2:naI s i=(ByteArray.extract s (Int.toNat i) (Int.toNat (toI s i))):=by unfold naI;rw[en]
   rw[en2]at k2 ⊢;simp only[cond_false];cases hn:namA (ByteArray.extract s (Int.toNat i) (Int.toNat (toI s i)))with
   |false=>
    simp only[Zm,cond_true];refine hbeg (0,5) a ?_;refine gO (tn 4 (kp hib (tn 4 (kb c1 (tn 1 (kb c1 (tn 1 (kb c1 (kb c2 (tn 2 (kc k1 (tn 4 (kp hsl (tn 2 (kc k2 (tn 1 (kb (b:= !namA (ByteArray.extract s (Int.toNat i) (Int.toNat (toI s i)))) (d:=true) (by rw[hn];rfl) (tn 2 z)))))))))))))))))) ?_;refine ENb kx ?_ ?_
    all_goals (intro p hp;simp only[gnA,Zb,List.not_mem_nil,or_false]at hp;rcases hp with rfl|rfl <;>kernel_rfl)
   | true=>
    simp only[Zo,cond_false];cases d1:decide (toI s i>=((Za s:Nat):Int))with
    |true=>
     simp only[cond_true];refine hbeg (0,5) a ?_;refine gO (tn 4 (kp hib (tn 4 (kb c1 (tn 1 (kb c1 (tn 1 (kb c1 (kb c2 (tn 2 (kc k1 (tn 4 (kp hsl (tn 2 (kc k2 (tn 1 (kb (b:= !namA (ByteArray.extract s (Int.toNat i) (Int.toNat (toI s i)))) (d:=false) (by rw[hn];rfl) (tn 3 (kb c1 (tn 2 (kb c2 (tn 5 (kb d1 (kb d1 (kb d1 (kb d1 (kb d1 (kb (b:=true) (d:=true) rfl (tn 2 z))))))))))))))))))))))))))))) ?_;refine ENb kx ?_ ?_
     all_goals (intro p hp;simp only[gnA,Zb,List.not_mem_nil,or_false]at hp;rcases hp with rfl|rfl <;>kernel_rfl)
    | false=>
     have d1':=of_decide_eq_false d1
     have hib2:=ib s (toI s i) ⟨by omega,by omega⟩;cases d2:BYi s (toI s i) !=61 with
     |true=>
      simp only[cond_false,cond_true];refine hbeg (0,5) a ?_;refine gO (tn 4 (kp hib (tn 4 (kb c1 (tn 1 (kb c1 (tn 1 (kb c1 (kb c2 (tn 2 (kc k1 (tn 4 (kp hsl (tn 2 (kc k2 (tn 1 (kb (b:= !namA (ByteArray.extract s (Int.toNat i) (Int.toNat (toI s i)))) (d:=false) (by rw[hn];rfl) (tn 3 (kb c1 (tn 2 (kb c2 (tn 5 (kb d1 (tn 1 (kb d1 (tn 1 (kb d1 (kp hib2 (kb d1 (tn 1 (kb d1 (kb d2 (tn 2 z))))))))))))))))))))))))))))))))) ?_;refine ENb kx ?_ ?_
      all_goals (intro p hp;simp only[gnA,Zb,List.not_mem_nil,or_false]at hp;rcases hp with rfl|rfl <;>kernel_rfl)
     | false=>
      simp only[cond_false]
      have w2:IntKind.i64.wrap (toI s i+1)=toI s i+1:=wrE _ _ kv
      have k4:=rdvG_to s (toI s i+1) hs kv kv;cases d3:(rdvG s (toI s i+1)).2.2 with
      |false=>
       simp only[Zm,cond_true];refine hbeg (0,5) a ?_;refine gO (tn 4 (kp hib (tn 4 (kb c1 (tn 1 (kb c1 (tn 1 (kb c1 (kb c2 (tn 2 (kc k1 (tn 4 (kp hsl (tn 2 (kc k2 (tn 1 (kb (b:= !namA (ByteArray.extract s (Int.toNat i) (Int.toNat (toI s i)))) (d:=false) (by rw[hn];rfl) (tn 3 (kb c1 (tn 2 (kb c2 (tn 5 (kb d1 (tn 1 (kb d1 (tn 1 (kb d1 (kp hib2 (kb d1 (tn 1 (kb d1 (kb d2 (tn 2 (kn w2 (kc k4 (tn 9 (kb (b:= !(rdvG s (toI s i+1)).2.2) (d:=true) (by rw[d3];rfl) (tn 2 z)))))))))))))))))))))))))))))))))))))) ?_;refine ENb kx ?_ ?_
       all_goals (intro p hp;simp only[gnA,Zb,List.not_mem_nil,or_false]at hp;rcases hp with rfl|rfl <;>kernel_rfl)
      |true=>
       simp only[Zo,cond_false]
       have k5:=aprG_to a (ByteArray.extract s (Int.toNat i) (Int.toNat (toI s i))) (rdvG s (toI s i+1)).1 ha;refine hbeg ((rdvG s (toI s i+1)).2.1,(aprG a (ByteArray.extract s (Int.toNat i) (Int.toNat (toI s i))) (rdvG s (toI s i+1)).1).1) (aprG a (ByteArray.extract s (Int.toNat i) (Int.toNat (toI s i))) (rdvG s (toI s i+1)).1).2 ?_;refine gO (tn 4 (kp hib (tn 4 (kb c1 (tn 1 (kb c1 (tn 1 (kb c1 (kb c2 (tn 2 (kc k1 (tn 4 (kp hsl (tn 2 (kc k2 (tn 1 (kb (b:= !namA (ByteArray.extract s (Int.toNat i) (Int.toNat (toI s i)))) (d:=false) (by rw[hn];rfl) (tn 3 (kb c1 (tn 2 (kb c2 (tn 5 (kb d1 (tn 1 (kb d1 (tn 1 (kb d1 (kp hib2 (kb d1 (tn 1 (kb d1 (kb d2 (tn 2 (kn w2 (kc k4 (tn 9 (kb (b:= !(rdvG s (toI s i+1)).2.2) (d:=false) (by rw[d3];rfl) (tn 4 (kg k5 (show a.fClasses.length=a.fClasses.length/\a.fPairs.length=a.fPairs.length/\True from⟨rfl,rfl,trivial⟩) (tn 2 z)))))))))))))))))))))))))))))))))))))))) ?_;refine ENb kx ?_ ?_
       all_goals (intro p hp;simp only[gnA,Zb,List.not_mem_nil,or_false]at hp;rcases hp with rfl|rfl <;>kernel_rfl)
def Few2(a:DAttr):Prop:=a.fClasses.length<=32/\a.fPairs.length<=32
theorem Few2.few{a:DAttr}(h:Few2 a):Few a:=⟨by have:=h.1;omega,by have:=h.2;omega⟩
theorem aclG_few(a:DAttr)(y:ByteArray)(h:Few2 a):Few2 (aclG a y).2:=by
 unfold aclG;refine Va5 (λr:Int×DAttr=>Few2 r.2) (λ_=>h) (λ_=>Va5 (λr:Int×DAttr=>Few2 r.2) (λ_=>h) (λq=>?_))
 have q:=of_decide_eq_false q;simp only[Zh]at q;refine⟨?_,h.2⟩
 show(a.fClasses++[y]).length<=32;rw[Zt];simp only[List.length_cons,List.length_nil];omega
theorem aprG_few(a:DAttr)(y v:ByteArray)(h:Few2 a):Few2 (aprG a y v).2:=by
 unfold aprG;refine Va5 (λr:Int×DAttr=>Few2 r.2) (λ_=>h) (λ_=>Va5 (λr:Int×DAttr=>Few2 r.2) (λ_=>h) (λq=>?_))
 have q:=of_decide_eq_false q;simp only[Zh]at q;refine⟨h.1,?_⟩
 have e:(addP a y v).fPairs.length=a.fPairs.length+1:=by simp[addP]
 show(addP a y v).fPairs.length<=32;omega
def RI(s:ByteArray)(i:Int)(r:(Int×Int)×DAttr):Prop:=Few2 r.2/\0<=r.1.1/\r.1.1<=s.size/\(r.1.2=0->i<r.1.1)
theorem namA_ne{y:ByteArray}(h:namA y=true):0<y.size:=by
 rcases Nat.eq_zero_or_pos y.size with h0|h0
 ·exfalso
  have:=size0 h0;subst this;exact absurd h gj
 ·exact h0
theorem rdiG_bd(s:ByteArray)(i:Int)(a:DAttr)(ha:Few2 a)(h0:0<=i)(h1:i<s.size):RI s i (rdiG s i a):=by
 have hn1:i<=nmI s i/\nmI s i<=s.size:=by unfold nmI;cases(cond (BYi s i==35) true (BYi s i==46)) <;>simp <;>omega
 have hto:=Vjl s (nmI s i) kv
 have hto2:nmI s i<=toI s i/\toI s i<=s.size:=by unfold toI;omega
 unfold rdiG;refine Va5 (RI s i) (λ_=>⟨ha,Zp 0,by show(0:Int)<=_;omega,λh=>by simp at h⟩) (λhn=>?_)
 have hn:namA (naI s i)=true:=by simpa using hn
 have hnz:=namA_ne hn;unfold naI at hnz;rw[Vag]at hnz
 have hlt:i<toI s i:=by omega
 refine Va5 (RI s i) (λ_=>Va5 (RI s i) (λ_=>⟨ha,Zp 0,by show(0:Int)<=_;omega,λh=>by simp at h⟩) (λ_=>⟨ha,by show 0<=toI s i;omega,hto2.2,λ_=>hlt⟩)) (λ_=>?_);refine Va5 (RI s i) (λ_=>⟨aclG_few a _ ha,by show 0<=toI s i;omega,hto2.2,λ_=>hlt⟩) (λ_=>?_);unfold rdiE;refine Va5 (RI s i) (λ_=>⟨ha,Zp 0,by show(0:Int)<=_;omega,λh=>by simp at h⟩) (λq=>?_);obtain⟨q1,_⟩:=Vae q
 have q1:=of_decide_eq_false q1;unfold rdiV
 have hv:=rdvG_bd s (toI s i+1) kv kv;refine Va5 (RI s i) (λ_=>⟨ha,Zp 0,by show(0:Int)<=_;omega,λh=>by simp at h⟩) (λq3=>?_)
 have q3:(rdvG s (toI s i+1)).2.2=true:=by simpa using q3
 have h5:=hv.2 q3;exact⟨aprG_few a _ _ ha,hv.1.1,hv.1.2.1,λ_=>by show i<(rdvG s (toI s i+1)).2.1;omega⟩
def paG(s:ByteArray)(v:Int)(a:DAttr):List (Nat×ABox):=[(1002,.cells 3 [jI v]),atG 1000 a,(1001,.cells 9 [jS s])]
theorem okPG(s:ByteArray)(v:Int)(a:DAttr):∀ p∈paG s v a,∀s∈p.2.svs,OkSV [1002,1000,1001] (gnA a) s:=by
 intro p hp s hs;simp only[paG,Zb,List.not_mem_nil,or_false]at hp;rcases hp with rfl|rfl|rfl
 ·simp only[ABox.svs,Zb,List.not_mem_nil,or_false]at hs;subst hs;simp[OkSV,SV.keys]
 ·simp only[atG,ABox.svs,Zb,List.not_mem_nil,or_false]at hs;rcases hs with rfl|rfl|rfl
  ·simp[OkSV,SV.keys]
  ·simp[OkSV,gnA,kA,kP,List.lookup]
  ·simp[OkSV,gnA,kA,kP,List.lookup];rfl
 ·simp only[ABox.svs,Zb,List.not_mem_nil,or_false]at hs;subst hs;simp[OkSV,SV.keys]
theorem itcG_to(s:ByteArray)(v:Int)(a:DAttr)(ha:Few a)(hs:s.size<=1073741824)(h0:0<=v)(h1:v<s.size):
  Va2 Tryz.prog 242 [.ptr 1000 0,.ptr 1001 0,.ptr 1002 0] (paG s v a) (gnA a) (jI (rdiG s v a).1.2) (paG s (rdiG s v a).1.1 (rdiG s v a).2) (gnA (rdiG s v a).2):=by
 have hi:=rdiG_to s v a ha hs h0 h1;generalize rdiG s v a=r at hi ⊢;refine BEGb (λ_:Unit=>jI r.1.2) () Tryz.func242 kx (by simp[paG,atG]) (by simp[kA,kP,gnA]) (by simp[OkSV,SV.keys,paG,atG]) (okPG s v a) (by simp[OkSV,SV.keys]) (okPG s r.1.1 r.2) rfl rfl ?_ (by simp[paG,atG]);refine gO (tn 3 (kg hi (show a.fClasses.length=a.fClasses.length/\a.fPairs.length=a.fPairs.length/\True from⟨rfl,rfl,trivial⟩) (tn 9 z))) ?_;refine ENb kx ?_ ?_
 ·intro p hp;simp only[paG,Zb,List.not_mem_nil,or_false]at hp;rcases hp with rfl|rfl|rfl <;>kernel_rfl
 ·intro p hp;simp only[gnA,Zb,List.not_mem_nil,or_false]at hp;rcases hp with rfl|rfl <;>kernel_rfl
def spG(s:ByteArray)(a:Int):List (Nat×ABox):=[(1002,.cells 3 [jI a]),(1001,.cells 9 [jS s])]
theorem spcG_to(s:ByteArray)(a:Int)(hs:s.size<=1073741824)(h0:0<=a)(h1:a<=s.size):Va2 Tryz.prog 241 [.ptr 1002 0,.ptr 1001 0] (spG s a) [] (jB (decide (skpS s a>a))) (spG s (skpS s a)) []:=by
 refine bGs Tryz.func241 ?_;refine gO (tn 3 z) ?_;refine LP (n:=(s.size-Int.toNat a)+1) (λN M S=>∃ v:Int,a<=v/\v<=s.size/\skpS_L0 s a N v=skpS s a/\s.size-Int.toNat v<N/\M=()/\S=sx 20 [(0,.ptr 1002 0),(1,.ptr 1001 0),(3,jI a)] (spG s v) []) kx ⟨a,by omega,h1,rfl,by omega,rfl,rfl⟩ (WK kx) ?_;rintro n0 M S ⟨v,hv,hv2,hM,hF,rfl,rfl⟩;obtain⟨n0,rfl⟩:∃ k,n0=k+1:=⟨n0-1,by omega⟩
 rw[skpS_L0]at hM;cases d1:decide (v<((Za s:Nat):Int))with
 |false=>
  have hM:v=skpS s a:=by rw[d1]at hM;exact hM
  refine gO (tn 5 (kb d1 (kb d1 (kb d1 (kb d1 (kb d1 (kb (b:=false) (d:=false) rfl z))))))) ?_;refine OUT (tn 4 z) kx ?_;rw[<-hM];exact eNs
 | true=>
  have d1':=of_decide_eq_true d1
  have hib:=ib s v ⟨by omega,by omega⟩;cases d2:(BYi s v==32)with
  |false=>
   have hM:v=skpS s a:=by rw[d1]at hM;unfold BYi at d2;rw[d2]at hM;exact hM
   refine gO (tn 5 (kb d1 (tn 1 (kb d1 (tn 1 (kb d1 (kp hib (kb d1 (tn 1 (kb d1 (kb d2 z))))))))))) ?_;refine OUT (tn 4 z) kx ?_;rw[<-hM];exact eNs
  |true=>
   have hM:skpS_L0 s a n0 (v+1)=skpS s a:=by rw[d1]at hM;unfold BYi at d2;rw[d2]at hM;exact hM
   have w1:=wrE (v+1) (v+1) kv;refine gO (tn 5 (kb d1 (tn 1 (kb d1 (tn 1 (kb d1 (kp hib (kb d1 (tn 1 (kb d1 (kb d2 (tn 1 (kn w1 (tn 1 z)))))))))))))) ?_;exact AG (m:=n0) ⟨v+1,by omega,by omega,hM,by omega,rfl,rfl⟩ (WK kx) kx (Zf _)
def aZ:DAttr:=⟨e0,[],[]⟩
def prsL(s:ByteArray):Nat->Int->DAttr->Bool->DAttr×Int×Int
  |0,_,_,_=>default
  |n+1,v,a,sep=>cond (decide (v>=((Za s:Nat):Int))) (aZ,0,5) (cond (BYi s v==125) (a,v+1,0) (cond (!sep) (aZ,0,5)
      (cond ((rdiG s v a).1.2 !=0) (aZ,0,(rdiG s v a).1.2) (prsL s n (skpS s (rdiG s v a).1.1) (rdiG s v a).2 (decide (skpS s (rdiG s v a).1.1>(rdiG s v a).1.1))))))
def prsA(s:ByteArray)(i:Int):DAttr×Int×Int:=cond (cond (cond (decide (i<0)) true (decide (i>=((Za s:Nat):Int)))) true (BYi s i !=123)) (aZ,0,5) (prsL s (s.size+2) (skpS s (i+1)) aZ true)
def pgB(s:ByteArray)(v:Int)(a:DAttr):List (Nat×ABox):=[(8,.cells 3 [jI v]),atG 7 a,(4,.cells 39 [jS e0,.nil,.nil]),(2,.cells 9 [jS s])]
def pgS(s:ByteArray)(v:Int)(a:DAttr)(b:Bool):St:=sx 57 [(2,.ptr 2 0),(4,.ptr 4 0),(7,.ptr 7 0),(8,.ptr 8 0),(9,.fn 241 [] [.ptr 8 0,.ptr 2 0]),(10,.fn 242 [] [.ptr 7 0,.ptr 2 0,.ptr 8 0]),(11,jB b)] (pgB s v a) (gnA a)
theorem sp8(s:ByteArray)(v:Int)(hs:s.size<=1073741824)(h0:0<=v)(h1:v<=s.size):Va2 Tryz.prog 241 [.ptr 8 0,.ptr 2 0] [(8,.cells 3 [jI v]),(2,.cells 9 [jS s])] [] (jB (decide (skpS s v>v))) [(8,.cells 3 [jI (skpS s v)]),(2,.cells 9 [jS s])] []:=Vcq kx (Vaa (Vaf (8,0) (1002,0) rfl) (Vaa (Vaf (2,0) (1001,0) rfl) (spcG_to s v hs h0 h1)))
theorem it8(s:ByteArray)(v:Int)(a:DAttr)(ha:Few a)(hs:s.size<=1073741824)(h0:0<=v)(h1:v<s.size):Va2 Tryz.prog 242 [.ptr 7 0,.ptr 2 0,.ptr 8 0] [(8,.cells 3 [jI v]),atG 7 a,(2,.cells 9 [jS s])] (gnA a) (jI (rdiG s v a).1.2) [(8,.cells 3 [jI (rdiG s v a).1.1]),atG 7 (rdiG s v a).2,(2,.cells 9 [jS s])] (gnA (rdiG s v a).2):=Vcq kx (Vaa (Vaf (7,0) (1000,0) rfl) (Vaa (Vaf (8,0) (1002,0) rfl) (Vaa (Vaf (2,0) (1001,0) rfl) (itcG_to s v a ha hs h0 h1))))
def encA(r:DAttr×Int×Int):SV:=.av (.tup [cAttr r.1,vI r.2.1,vI r.2.2])
theorem prsA_to(s:ByteArray)(i:Int)(hs:s.size<=1073741824):Va2 Tryz.prog 195 [jS s,jI i] [] [] (encA (prsA s i)) [] []:=by
 obtain⟨R,hR⟩:∃ R,prsA s i=R:=⟨_,rfl⟩
 rw[hR];unfold prsA at hR;refine bG Tryz.func195 ?_;cases d1:decide (i<0)with
 |true=>
  rw[d1]at hR;simp only[cond_true]at hR;subst hR;refine gO (tn 7 (kb d1 (kb d1 (kb d1 (kb d1 (kb d1 (tn 1 (kb (b:=true) (d:=true) rfl (kb (b:=true) (d:=true) rfl (kb (b:=true) (d:=true) rfl (kb (b:=true) (d:=true) rfl (kb (b:=true) (d:=true) rfl (kb (b:=true) (d:=true) rfl (tn 4 z)))))))))))))) ?_;exact eN
 | false=>
  rw[d1]at hR;simp only[cond_false]at hR;cases d2:decide (i>=((Za s:Nat):Int))with
  |true=>
   rw[d2]at hR;simp only[cond_true]at hR;subst hR;refine gO (tn 7 (kb d1 (tn 1 (kb d1 (tn 1 (kb d1 (tn 1 (kb d1 (tn 1 (kb d1 (tn 1 (kb d2 (kb d2 (kb d2 (kb d2 (kb d2 (kb (b:=true) (d:=true) rfl (tn 4 z)))))))))))))))))) ?_;exact eN
  | false=>
   rw[d2]at hR;simp only[cond_false]at hR
   have d1':=of_decide_eq_false d1
   have d2':=of_decide_eq_false d2
   have hib:=ib s i ⟨by omega,by omega⟩;cases d3:(BYi s i !=123)with
   |true=>
    rw[d3]at hR;simp only[cond_true]at hR;subst hR;refine gO (tn 7 (kb d1 (tn 1 (kb d1 (tn 1 (kb d1 (tn 1 (kb d1 (tn 1 (kb d1 (tn 1 (kb d2 (tn 1 (kb d2 (tn 1 (kb d2 (kp hib (kb d2 (tn 1 (kb d2 (kb d3 (tn 4 z)))))))))))))))))))))) ?_;exact eN
   | false=>
    rw[d3]at hR;simp only[cond_false]at hR
    have w1:=wrE (i+1) (i+1) kv
    have k1:=sp8 s (i+1) hs kv kv
    have hsk:=Vbw s (i+1) kv;refine gO (tn 7 (kb d1 (tn 1 (kb d1 (tn 1 (kb d1 (tn 1 (kb d1 (tn 1 (kb d1 (tn 1 (kb d2 (tn 1 (kb d2 (tn 1 (kb d2 (kp hib (kb d2 (tn 1 (kb d2 (kb d3 (tn 2 (kn w1 (kq 7 (tn 6 z))))))))))))))))))))))))) ?_;refine RT [(7,1,.own kA 0 1 (([]:List ByteArray).map Vay)),(7,2,.own kP 0 2 (([]:List DPair).map Vbh))] (ac (show([]:List AV)=[]/\0<10/\(0:Nat)=0 from⟨rfl,by decide,rfl⟩) (ac (show([]:List AV)=[]/\0<169/\(0:Nat)=0 from⟨rfl,by decide,rfl⟩) an)) kx ?_;refine gO (tn 1 (kg k1 trivial (tn 1 z))) ?_;refine LP (n:=s.size+2) (λN M S=>∃(v:Int)(a:DAttr)(sep:Bool),0<=v/\v<=s.size/\Few2 a/\prsL s N v a sep=R/\s.size-Int.toNat v<N/\M=()/\S=pgS s v a sep) kx ⟨skpS s (i+1),aZ,true,by omega,by omega,⟨by decide,by decide⟩,hR,by omega,rfl,rfl⟩ (WK kx) ?_;rintro n0 M S ⟨v,a,sep,hv,hv2,ha,hM,hF,rfl,rfl⟩;obtain⟨n0,rfl⟩:∃ k,n0=k+1:=⟨n0-1,by omega⟩
    rw[prsL]at hM;cases d4:decide (v>=((Za s:Nat):Int))with
    |true=>
     rw[d4]at hM;simp only[cond_true]at hM;subst hM;refine gO (tn 4 (kb d4 (tn 4 z))) ?_;refine OUT z kx ?_;exact eN
    | false=>
     rw[d4]at hM;simp only[cond_false]at hM
     have d4':=of_decide_eq_false d4
     have hib2:=ib s v ⟨by omega,by omega⟩;cases d5:(BYi s v==125)with
     |true=>
      rw[d5]at hM;simp only[cond_true]at hM;subst hM
      have w2:=wrE (v+1) (v+1) kv;refine gO (tn 4 (kb d4 (tn 2 (kp hib2 (tn 1 (kb d5 z)))))) ?_;refine DR3 (tn 3 (kn w2 (kp w2 (tn 3 z)))) kx kx kx ?_;refine OUT z kx ?_;exact eN
     | false=>
      rw[d5]at hM;simp only[cond_false]at hM;cases sep with
      |false=>
       simp only[Zm,cond_true]at hM;subst hM;refine gO (tn 4 (kb d4 (tn 2 (kp hib2 (tn 1 (kb d5 (tn 2 (kb (b:= !false) (d:=true) rfl (tn 4 z))))))))) ?_;refine OUT z kx ?_;exact eN
      | true=>
       simp only[Zo,cond_false]at hM
       have k2:=it8 s v a ha.few hs hv kv
       have hri:=rdiG_bd s v a ha hv kv;generalize rdiG s v a=r at k2 hM hri;obtain⟨r1,r2,r3,r4⟩:=hri;cases d6:(r.1.2 !=0)with
       |true=>
        rw[d6]at hM;simp only[cond_true]at hM;subst hM;refine gO (tn 4 (kb d4 (tn 2 (kp hib2 (tn 1 (kb d5 (tn 2 (kb (b:= !true) (d:=false) rfl (tn 1 (kg k2 (show a.fClasses.length=a.fClasses.length/\a.fPairs.length=a.fPairs.length/\True from⟨rfl,rfl,trivial⟩) (tn 3 (kb d6 (tn 5 z))))))))))))) ?_;refine OUT z kx ?_;exact eN
       |false=>
        rw[d6]at hM;simp only[cond_false]at hM
        have k3:=sp8 s r.1.1 hs r2 r3
        have h4:=r4 (Vah d6)
        have hsk2:=Vbw s r.1.1 r2;refine gO (tn 4 (kb d4 (tn 2 (kp hib2 (tn 1 (kb d5 (tn 2 (kb (b:= !true) (d:=false) rfl (tn 1 (kg k2 (show a.fClasses.length=a.fClasses.length/\a.fPairs.length=a.fPairs.length/\True from⟨rfl,rfl,trivial⟩) (tn 3 (kb d6 (tn 1 (kg k3 trivial (tn 1 z))))))))))))))) ?_;exact AG (m:=n0) ⟨skpS s r.1.1,r.2,_,by omega,by omega,r1,hM,by omega,rfl,rfl⟩ (WK kx) kx (Zf _)
def PA(s:ByteArray)(v:Int)(r:DAttr×Int×Int):Prop:=Few2 r.1/\(r.2.2=0->v<r.2.1/\r.2.1<=s.size)
theorem few0:Few2 aZ:=⟨by decide,by decide⟩
theorem PA5(s:ByteArray)(v:Int):PA s v (aZ,0,5):=⟨few0,λh=>by simp at h⟩
theorem prsL_bd(s:ByteArray):∀(n:Nat)(v:Int)(a:DAttr)(sep:Bool),0<=v->v<=s.size->Few2 a->s.size-v.toNat<n->PA s v (prsL s n v a sep)
 |0,v,a,sep,_,_,_,h=>by omega
 | n+1,v,a,sep,h0,h1,ha,h=>by
  rw[prsL];refine Va5 (PA s v) (λ_=>PA5 s v) (λq=>?_)
  have q:=of_decide_eq_false q
  have hr:=rdiG_bd s v a ha h0 kv;obtain⟨r1,r2,r3,r4⟩:=hr;refine Va5 (PA s v) (λ_=>⟨ha,λ_=>⟨by show v<v+1;omega,by show v+1<=_;omega⟩⟩) (λ_=>Va5 (PA s v) (λ_=>PA5 s v) (λ_=>Va5 (PA s v) (λq2=>⟨few0,λh=>?_⟩) (λq2=>?_)))
  ·exact absurd h (bne_iff_ne.1 q2)
  ·have h4:=r4 (Vah q2)
   have hs:=Vbw s (rdiG s v a).1.1 r2
   have ih:=prsL_bd s n (skpS s (rdiG s v a).1.1) (rdiG s v a).2 (decide (skpS s (rdiG s v a).1.1>(rdiG s v a).1.1)) kv kv r1 kv;exact⟨ih.1,λh=>by have:=ih.2 h;omega⟩
theorem prsA_bd(s:ByteArray)(i:Int):PA s i (prsA s i):=by
 unfold prsA;refine Va5 (PA s i) (λ_=>PA5 s i) (λq=>?_);obtain⟨q,_⟩:=Vae q;obtain⟨q1,q2⟩:=Vae q
 have q1:=of_decide_eq_false q1
 have q2:=of_decide_eq_false q2
 have hs:=Vbw s (i+1) kv
 have ih:=prsL_bd s (s.size+2) (skpS s (i+1)) aZ true kv kv few0 kv;exact⟨ih.1,λh=>by have:=ih.2 h;omega⟩
end Go.Proofs.YthbpjmogdonlkaaGreatDoor
namespace Go.Eng
variable {P:Program}
def mgetS(ks:List Int)(l:List SV)(s:Int):SV:=match Vbp ks s with
 |some j=>l.getD j .junk
 |none=>.nil
def Vh8(ks:List Int)(s:Int):List Int:=match Vbp ks s with
 |some _=>ks
 |none=>ks++[s]
def mputS(ks:List Int)(l:List SV)(s:Int)(v:SV):List SV:=match Vbp ks s with
 |some j=>l.set j v
 |none=>l++[v]
theorem RepSs.set{G:Gh}{w:World}:∀ {l:List SV} {us:List Value} (n:Nat) {x:SV} {u:Value},RepSs G w l us->RepS G w x u->RepSs G w (l.set n x) (us.set n u)
 |[],us,n,x,u,h,_=>by simp only[RepSs]at h;subst h;simp[RepSs]
 |y::l,us,0,x,u,h,hx=>by
  obtain⟨v,us1,rfl,h2,h3⟩:=h;exact⟨u,us1,rfl,hx,h3⟩
 |y::l,us,n+1,x,u,h,hx=>by
  obtain⟨v,us1,rfl,h2,h3⟩:=h;exact⟨v,us1.set n u,rfl,h2,RepSs.set n h3 hx⟩
theorem mi_weak{S:St}{b:Nat}(hb:S.bx.lookup b=some (.map [] [])):Weak S (S.setBox b (.mi [] [])):=by
 intro G w a hr;refine⟨hr.wf,hr.size,hr.fr,λp hp=>?_,hr.gn,hr.defers⟩;simp only[St.setBox,List.mem_map]at hp;obtain⟨q,hq,rfl⟩:=hp
 split
 ·rename_i hqb;obtain⟨blk,ents,clock,g1,g2,g3,g4,g5,g6⟩:=hr.bx _ (Vad hb)
  have h0:ents.toList=[]:=by
   have:=congrArg Zu g4;simpa using this
  refine⟨blk,ents,clock,by rw[hqb];exact g1,g2,g3,g4,by rw[h0];rfl,g6⟩
 ·exact hr.bx q hq
theorem Vjz{o:Oper}{S:St}{t k e:TypeId}{sz bt b:Nat}{x i:Operand}{ks:List Int}{l:List SV}{s:Int}(ho:o.op=.lookup t x i false)(hx:S.ev x=.mp b)(hi:S.ev i=.av (.val (.int .i64 s)))
  (ht:tMap P t=some (k,e)) (hk:P.underlying k=some (.int .i64)) (hz:Vak P e=some (sz,bt,some (.slice none 0 0))) (hb:S.bx.lookup b=some (.mi ks l)):Sound P o S ⟨True,mgetS ks l s,S⟩:=
 Sound.still λ_ G w a hr=>by
  have h2:=hr.ev x;rw[hx]at h2;obtain⟨blk,h3,h4⟩:=h2
  have h5:=hr.ev i;rw[hi]at h5;simp only[RepS,Rep]at h5;obtain⟨blk',ents,clock,g1,g2,g3,g4,g5,g6⟩:=hr.bx _ (Vad hb);simp only at g1;rw[h3]at g1;simp at g1;subst g1
  have hf:=Vet s ents.toList ks 0 g4
  have hlen:ents.toList.length=ks.length:=by simpa using congrArg Zu g4
  have run:∀ v,(Instr.lookup t (.map (some blk)) (.int .i64 s) false).run P w=.ok v w->(execOp a.eval o).run P w=.ok (.value v) w:=λv e1=>by simp only[execOp,ho,h4,h5.1,Sem.run_bind,e1];rfl
  cases hp:Vbp ks s with
  |none=>
   rw[hp]at hf;simp only[Option.bind_none]at hf;refine⟨.slice none 0 0,run _ ?_,?_⟩
   ·simp[Instr.lookup,Va0 (Vcg ht),MapKept.run_getObj_map g2,MapKept.run_checkKey hk (Vdf s),MapKept.run_findKey hk hf,Vam hz]
   ·unfold mgetS;rw[hp];rfl
  | some j=>
   have hj:=Vfk hp
   have hjl:j<ks.length:=by
    rcases Zj j ks.length with h|h
    ·exact h
    ·simp[Zg h]at hj
   have hje:j<ents.toList.length:=by omega
   rw[hp]at hf;simp only[Option.bind_some,Zc hje,Zn]at hf;refine⟨(ents.toList[j]'hje).val,run _ ?_,?_⟩
   ·simp[Instr.lookup,Va0 (Vcg ht),MapKept.run_getObj_map g2,MapKept.run_checkKey hk (Vdf s),MapKept.run_findKey hk hf]
   ·have hvl:l.length=ents.toList.length:=by rw[<-g5.length];simp
    have hjv:j<l.length:=by omega
    unfold mgetS;rw[hp];simp only[Ze,Zc hjv,Zr];obtain⟨u,e1,e2⟩:=g5.get j l[j] (Zc hjv);simp only[Zk,Zc hje,Zn,Zi]at e1;rw[e1];exact e2
theorem Vi2{t k e:TypeId}(ht:tMap P t=some (k,e))(hk:P.underlying k=some (.int .i64)){w:World}{b:Nat}{ents:Array MapEntry}{clock:Nat}
  (hb:w.heap[b]? =some (.map ents clock)) {ks:List Int} (hks:ents.toList.map (·.key)=ks.map (.int .i64)) (s:Int) (v:Value) (hborn:∀ e∈ents.toList,e.born<clock):
  ∃(ents':Array MapEntry)(clock':Nat),(Instr.mapUpdate t (.map (some b)) (.int .i64 s) v).run P w=.ok () {w with heap:=w.heap.setIfInBounds b (.map ents' clock')}/\ents'.toList.map (·.key)=(Vh8 ks s).map (.int .i64)/\
   (∀e∈ents'.toList,e.born<clock')/\ents'.toList.map (·.val)=(match Vbp ks s with|some j=>(ents.toList.map (·.val)).set j v|none=>ents.toList.map (·.val)++[v]):=by
 have hf:=Vet s ents.toList ks 0 hks
 have hlen:ents.toList.length=ks.length:=by simpa using congrArg Zu hks
 cases hp:Vbp ks s with
 | none=>
  rw[hp]at hf;simp only[Option.bind_none]at hf;refine⟨ents.push {key:=.int .i64 s,val:=v,born:=clock},clock+1,?_,?_,?_,?_⟩
  ·simp[Instr.mapUpdate,Va0 (Vcg ht),MapKept.run_getObj_map hb,MapKept.run_checkKey hk (Vdf s),MapKept.run_findKey hk hf,MapKept.run_setObj_map _ hb]
  ·simp only[Vh8,hp,Array.toList_push,List.map_append,hks];simp
  ·intro e he;simp only[Array.toList_push,List.mem_append,List.mem_singleton]at he;rcases he with he|rfl
   ·have:=hborn e he;omega
   ·simp
  ·simp
 | some j=>
  have hj:=Vfk hp
  have hjl:j<ks.length:=by
   rcases Zj j ks.length with h|h
   ·exact h
   ·simp[Zg h]at hj
  have hje:j<ents.toList.length:=by omega
  have hje':j<ents.size:=by simpa using hje
  rw[hp]at hf;simp only[Option.bind_some,Zc hje,Zn]at hf
  have hkey:(ents.toList[j]'hje).key=.int .i64 s:=by
   have:=congrArg (λl=>l[j]?) hks;simp only[Zk,Zc hje,hj,Zn,Zi]at this;exact this
  have hkey':ents[j].key=.int .i64 s:=by simpa using hkey
  have hmod:∀ f:MapEntry->MapEntry,(ents.modify j f).toList=ents.toList.modify j f:=λf=>by simp
  refine⟨ents.modify j (λe=>{e with key:=.int .i64 s,val:=v}),clock,?_,?_,?_,?_⟩
  ·simp[Instr.mapUpdate,Va0 (Vcg ht),MapKept.run_getObj_map hb,MapKept.run_checkKey hk (Vdf s),MapKept.run_findKey hk hf,hje',hkey',MapKept.run_keyThatStays (Vdf s),MapKept.run_setObj_map _ hb]
  ·simp only[Vh8,hp,hmod, <-hks];apply Zx;intro i;simp only[Zk,List.getElem?_modify];cases he:ents.toList[i]? with
   |none=>simp
   |some e=>
    simp only[Zn,Option.map_eq_map]
    split
    ·rename_i hij;subst hij;rw[Zc hje]at he;simp only[Zi]at he;subst he;simp only[Zn];rw[hkey]
    ·simp
  ·intro e he;simp only[hmod]at he;obtain⟨i,hi⟩:=List.mem_iff_getElem?.1 he;simp only[List.getElem?_modify]at hi;cases hx:ents.toList[i]? with
   |none=>rw[hx]at hi;simp at hi
   |some e0=>
    rw[hx]at hi
    have h0:=hborn e0 (List.mem_of_getElem? hx);simp only[Option.map_eq_map,Zn]at hi
    split at hi
    ·simp only[Zi]at hi;rw[<-hi];exact h0
    ·simp only[id_eq,Zi]at hi;rw[<-hi];exact h0
  ·simp only[hmod];apply Zx;intro i;simp only[Zk,List.getElem?_modify,Zw,Zh]
   by_cases hij:j=i
   ·subst hij;simp[hje']
   ·rw[if_neg hij];cases he:ents.toList[i]? with
    |none=>simp
    |some e=>simp[hij]
theorem Vgz{o:Oper}{S:St}{t k e:TypeId}{x i y:Operand}{b:Nat}{ks:List Int}{l:List SV}{s:Int}{v:SV}(ho:o.op=.mapUpdate t x i y)(hx:S.ev x=.mp b)(hi:S.ev i=.av (.val (.int .i64 s)))(hy:S.ev y=v)
  (ht:tMap P t=some (k,e)) (hk:P.underlying k=some (.int .i64)) (hb:S.bx.lookup b=some (.mi ks l)):Sound P o S ⟨True,Vas,S.setBox b (.mi (Vh8 ks s) (mputS ks l s v))⟩:=by
 intro _ G w a hr
 have h2:=hr.ev x;rw[hx]at h2;obtain⟨blk,h3,h4⟩:=h2
 have h5:=hr.ev i;rw[hi]at h5;simp only[RepS,Rep]at h5
 have h6:=hr.ev y;rw[hy]at h6;obtain⟨blk',ents,clock,g1,g2,g3,g4,g5,g6⟩:=hr.bx _ (Vad hb);simp only at g1;rw[h3]at g1;simp at g1;subst g1;obtain⟨ents',clock',e1,e2,e3,e4⟩:=Vi2 (P:=P) ht hk g2 g4 s (a.eval y) g6;obtain⟨s1,s2,s3⟩:=Vgh hr.wf h3 g2 g3 (.map ents' clock')
 have hper:∀ s u,RepS G w s u->RepS G {w with heap:=w.heap.setIfInBounds blk (.map ents' clock')} s u:=λs u hs=>hs.persist s1.toExt (λ_ _=>rfl)
 refine⟨.skip,undef,_,G,?_,.inr ⟨rfl,rfl⟩,s1,⟨s2,hr.size,λt s ht=>hper _ _ (hr.fr t s ht),λp hp=>?_,hr.gn,hr.defers⟩,?_,λ_ _=>rfl⟩
 ·simp only[execOp,ho,h4,h5.1,Sem.run_bind,e1];rfl
 ·simp only[St.setBox,List.mem_map]at hp;obtain⟨q,hq,rfl⟩:=hp
  split
  ·rename_i hqb;refine⟨blk,ents',clock',by rw[hqb];exact h3,(MapKept.heap_set g2).1,g3,e2,?_,e3⟩;rw[e4];unfold mputS
   have g5':RepSs G {w with heap:=w.heap.setIfInBounds blk (.map ents' clock')} l (ents.toList.map (·.val)):=RepSs.persistL s1.toExt (λ_ _=>rfl) g5
   have h6':=hper _ _ h6;cases Vbp ks s with
   |none=>exact g5'.append ⟨_,[],rfl,h6',rfl⟩
   |some j=>exact g5'.set j h6'
  ·rename_i hqb;exact(hr.bx q hq).persist s1.toExt (s3 (q.1,0) (by simpa using hqb)) (λ_ _=>rfl)
 ·simp only[Vas,RepS,Rep];exact⟨#[],rfl,by simp[RepL]⟩
theorem Vfl{S:St}{c k id:Nat}{ks:List Int}{l:List SV}{vs:List AV}(hs:Vfs S c k=.mp id)(hc:c≠id)(hb:S.bx.lookup id=some (.mi ks l))(hl:∀(G:Gh)(w:World)(us:List Value),RepSs G w l us->RepL G.U w vs us):
  Ghost S (Vcr (S.forget id) c k (.av (.im ks vs))):=by
 intro G w a hr;obtain⟨blk,ents,clock,g1,g2,g3,g4,g5,g6⟩:=hr.bx _ (Vad hb);simp only at g1
 have hU:∀ b,G.U b<=(G.setU blk 1).U b:=by
  intro b;simp only[Gh.setU];split
  ·rename_i h;rw[h,g3];omega
  ·omega
 have hkp:∀ κ,κ≠(id,0)->Keep G w (G.setU blk 1) w κ:=λκ hκ=>⟨rfl,λb hb'=>⟨rfl,by
  simp only[Gh.setU];rw[if_neg (λhe=>hκ (hr.wf.inj κ (id,0) b hb' (by rw[he];exact g1)))]⟩⟩
 have hstep:Step G w (G.setU blk 1) w:=⟨⟨hU,Imm.refl _ _,Zl _,rfl,rfl,rfl,λ_ _=>rfl,λ_=>Zl _,λκ h0 _=>hkp κ (by intro e;rw[e]at h0;simp at h0)⟩,
  λb _ hn=>⟨rfl,by simp only[Gh.setU];rw[if_neg (λhe=>hn (id,0) (by rw[he];exact g1))]⟩,λκ b h=>.inl ⟨κ,h⟩⟩
 have hlt:=hr.wf.lt _ _ g1
 have hwf:Wf (G.setU blk 1) w:=⟨hr.wf.inj,hr.wf.lt,λb hb'=>by simp only[Gh.setU];rw[if_neg kv];exact hr.wf.zero b hb'⟩
 have hr1:Rel (G.setU blk 1) w (S.forget id) a:=(hr.forget id).but (Vgr S id) hstep.toExt hwf hkp rfl;refine⟨_,hstep,?_,λ_ _=>rfl⟩
 have hrep:∀ u,RepS G w (.mp id) u->Rep (G.setU blk 1).U w (.im ks vs) u:=by
  rintro u ⟨blk',h1,rfl⟩;rw[g1]at h1;simp at h1;subst h1;simp only[Rep];exact⟨blk,ents,clock,rfl,by simp[Gh.setU],g2,g4,RepL.mono hU (Imm.refl _ _) _ _ (hl G w _ g5)⟩
 unfold Vcr
 split
 ·rename_i ty l' hl';refine⟨hr1.wf,hr1.size,hr1.fr,λp hp=>?_,hr1.gn,hr1.defers⟩;simp only[St.setBox,List.mem_map]at hp;obtain⟨q,hq,rfl⟩:=hp
  split
  ·rename_i hqb
   have hb1:=hr1.bx _ (Vad hl');simp only at hb1 ⊢;rw[hqb];obtain⟨b2,arr,q1,q2,q3,q4,q5⟩:=hb1;refine⟨b2,arr,q1,q2,q3,?_,q5⟩
   -- the value that stands there
   unfold Vfs at hs
   split at hs
   ·rename_i ty0 l0 hl0
    have hb0:=hr.bx _ (Vad hl0);simp only at hb0;obtain⟨b3,arr3,p1,p2,p3,p4,p5⟩:=hb0
    have he:b3=b2:=by
     have:(G.setU blk 1).ow (c,0)=G.ow (c,0):=rfl;rw[this,p1]at q1;exact Option.some.inj q1
    subst he;rw[p2]at q2;obtain⟨rfl,_⟩:arr3=arr/\ty0=ty:=by simpa using q2
    have hk:k<l0.length:=by
     rcases Zj k l0.length with h|h
     ·exact h
     ·rw[Ze,Zg h]at hs;cases hs
    have hk2:l0[k]? =some (.mp id):=by
     rw[Ze,Zc hk]at hs;rw[Zc hk];simpa using hs
    obtain⟨u,e1,e2⟩:=p4.get k _ hk2
    have hset:arr3.toList.set k u=arr3.toList:=by
     apply Zx;intro i;rw[Zw]
     split
     ·rename_i hi;subst hi
      split
      ·exact e1.symm
      ·rename_i hlt;rw[Zg kv]at e1;cases e1
     ·rfl
    rw[<-hset];exact q4.set k (show RepS (G.setU blk 1) w (.av (.im ks vs)) u from hrep u e2)
   ·cases hs
  ·exact hr1.bx q hq
 ·exact hr1
theorem WA_one{ops:Array Oper}{Q:St->Prop}{fuel i:Nat}{L:Array Bool}{S:St}{o:Oper}{r:Res}(hr:Region.ready .any ops L=[i])(ho:ops[i]? =some o)(hg:o.guard=none)(hs:Sound P o S r)(hok:r.ok)
  (h:WA P ops Q fuel (L.setIfInBounds i true) (r.st.put o.dst r.v)):WA P ops Q (fuel+1) L S:=by
 intro Q' G w a hrl k;refine Vik hr ?_;obtain⟨nx,v,w',G',h1,h2,h3,h4,h5,h6⟩:=hs hok G w a hrl;unfold wpOp;simp only[ho];rw[if_pos (Vao hg a)];refine .inl ?_;unfold Oper.wp;rw[h1]
 have fin:∀ u,RepS G' w' r.v u->wpAny P .any ops Q' fuel (L.setIfInBounds i true) (a.put o.dst u) w':=λu hu=>h Q' G' w' _ (h4.put o.dst hu) (λS2 G2 a2 w2 q1 q2 q3 q4=>k S2 G2 a2 w2 q1 (h3.trans q2) q3 (λi hi=>(q4 i hi).trans (h6 i hi)))
 rcases h2 with rfl|⟨rfl,rfl⟩
 ·rw[Oper.upon_value];exact fin _ h5
 ·rw[Oper.upon_skip];exact fin _ h5
theorem WA_nil{ops:Array Oper}{Q:St->Prop}{L:Array Bool}{S:St}(hd:Region.ready .any ops L=[])(hQ:Q S):WA P ops Q 0 L S:=by
 intro Q' G w a hrl k;exact⟨hd,k S G a w hQ (Step.refl G w) hrl (λ_ _=>rfl)⟩
def headsE(ops:Array Oper)(n:Nat):Bool:=
 decide (n<=ops.size)&&(Zq n).all (λi=>(Vj7 ops i).all (λd=>decide (d<i)))&&(Zq ops.size).all (λi=>decide (i<n)||(Zq n).all (λj=>(Vj7 ops i).contains j))
theorem W_headE{id:Nat}{ops:Array Oper}{Q:Exit->St->Prop}{S Sc:St}(hm:P.follows .mixedOrders=true)(n m:Nat)(gn1:List (Key×Nat))(v:Nat->SV)(d:Nat->Nat)(hB:headsE ops n=true)
  (hd:∀ i,i<n->∃ o,ops[i]? =some o/\o.dst=some (d i)/\o.guard=none) (hinj:∀ i j,i<n->j<n->d i=d j->i=j) (hlt:∀ i,i<n->d i<S.fr.length)
  (hop:∀ i,i<n->∀ o,ops[i]? =some o->∀ S':St,S'.bx=S.bx->S'.fr.length=S.fr.length->(∀e∈o.after,Region.binds .any e=true->e.on<n->S'.fr[d e.on]? =some (v e.on))->(∀t:Nat,(∀j,j<n->t≠d j)->S'.fr[t]? =S.fr[t]?)->
   (i≠m->Sound P o S' ⟨True,v i,S'⟩)/\(i=m->S'.gn=S.gn->Sound P o S' ⟨True,v i,{S' with gn:=gn1}⟩))
  (hS1:Sc.bx=S.bx) (hS2:Sc.gn=if m<n then gn1 else S.gn) (hS3:∀ j,j<n->Sc.fr[d j]? =some (v j)) (hS4:∀ t:Nat,(∀j,j<n->t≠d j)->Sc.fr[t]? =S.fr[t]?)
  (h:WA P ops (Q .normal) (ops.size-n) (upTo ops.size n) Sc):W P (.region id ops true) Q S:=by
 simp only[headsE,Bool.and_eq_true,decide_eq_true_eq,List.all_eq_true,List.mem_range,Bool.or_eq_true,List.contains_eq_mem]at hB;obtain⟨⟨hle,hlow⟩,hhi⟩:=hB;intro G0 w0 a0 hr0;obtain⟨hstep0,hr0'⟩:=hr0.draw;apply wp_region_any hm
 have main:∀(f:Nat)(listed:Array Bool)(G:Gh)(w:World)(a:Act)(S':St),(Zq n).countP (λi=> !listed.getD i false)=f->listed.size=ops.size->(∀j,n<=j->listed.getD j false=false)->S'.bx=S.bx->(S'.gn=if listed.getD m false then gn1 else S.gn)->S'.fr.length=S.fr.length->
   (∀j,j<n->listed.getD j false=true->S'.fr[d j]? =some (v j))->(∀t:Nat,(∀j,j<n->t≠d j)->S'.fr[t]? =S.fr[t]?)->Rel G w S' a->Step G0 w0 G w->(∀i,Fx i->G.ow (i,0)=G0.ow (i,0))->wpAny P .any ops (lift Q G0 w0) (f+(ops.size-n)) listed a w:=by
  intro f
  induction f with
  | zero=>
   intro listed G w a S' hb hsz hun h1 h2 h3 h4 h5 hr hst how
   have hall':∀ j,j<n->listed.getD j false=true:=λj hj=>by
    rw[List.countP_eq_zero]at hb;simpa using hb j (List.mem_range.2 hj)
   have hfr:S'.fr=Sc.fr:=by
    apply Zx;intro t
    by_cases ht:∃ j,j<n/\t=d j
    ·obtain⟨j,hj,rfl⟩:=ht;rw[h4 j hj (hall' j hj),hS3 j hj]
    ·have ht':∀ j,j<n->t≠d j:=λj hj e=>ht ⟨j,hj,e⟩
     rw[h5 t ht',hS4 t ht']
   have hgn:S'.gn=Sc.gn:=by
    rw[h2,hS2]
    by_cases hmn:m<n
    ·rw[if_pos hmn,hall' m hmn];rfl
    ·rw[if_neg hmn,hun m kv];rfl
   have hSS:S'=Sc:=by
    obtain⟨f1,b1,g1⟩:=S';obtain⟨f2,b2,g2⟩:=Sc;simp only at hfr h1 hgn hS1;rw[hfr,h1,hgn,hS1]
   subst hSS;rw[upTo_eq hsz hall' hun,Nat.zero_add];exact h (lift Q G0 w0) G w a hr (λS2 G2 a2 w2 q1 q2 q3 q4=>⟨S2,G2,q1,hst.trans q2,q3,λi hi=>(q4 i hi).trans (how i hi)⟩)
  | succ f ih=>
   intro listed G w a S' hb hsz hun0 h1 h2 h3 h4 h5 hr hst how;rw[show f+1+(ops.size-n)=(f+(ops.size-n))+1 by omega];refine⟨λh0=>?_,λi hi=>?_⟩
   ·obtain⟨i,hi,hmin⟩:∃ i,(i<n/\listed.getD i false=false)/\∀ j,j<i->listed.getD j false=true:=by
     obtain⟨i,h1,h2⟩:=Vhi hb;obtain⟨k,k1,k2,k3⟩:=least (p:=λj=> !listed.getD j false) i h2;exact⟨k,⟨by omega,by simpa using k1⟩,λj hj=>by simpa using k3 j hj⟩
    have hio:i<ops.size:=by omega
    have:i∈Region.ready .any ops listed:=by
     rw[mem_ready];refine⟨by rw[Vhd kv];exact hi.2,ops[i],Array.getElem?_eq_getElem hio,λe he hb=>hmin _ ?_⟩;exact hlow i hi.1 _ ((Vh9 (Array.getElem?_eq_getElem hio)).2 ⟨e,he,hb,rfl⟩)
    rw[h0]at this;cases this
   ·obtain⟨hun,o,ho,hdep⟩:=mem_ready.1 hi
    have hlisted:i<listed.size:=by rw[hsz];exact(Zd.1 ho).1
    rw[Vhd hlisted]at hun
    have hin:i<n:=by
     rcases hhi i kv with hq|hq
     ·exact hq
     ·exfalso;obtain⟨j,hj1,hj2⟩:=Vhi hb
      have hq:=hq j hj1;rw[Vh9 ho]at hq;obtain⟨e,q1,q2,q3⟩:=hq
      have:=hdep e q1 q2;rw[q3]at this;rw[this]at hj2;cases hj2
    obtain⟨o',ho',hdst,hg⟩:=hd i hin
    have:o'=o:=Option.some.inj (ho'.symm.trans ho);subst this;obtain⟨hq1,hq2⟩:=hop i hin o' ho S' h1 h3 (λe he hbe hen=>h4 e.on hen (hdep e he hbe)) h5
    have hsm:∀ j,j≠i->(listed.setIfInBounds i true).getD j false=listed.getD j false:=λj hj=>by
     simp only[Array.getD_eq_getD_getElem?];rw[Array.getElem?_setIfInBounds_ne (λe=>hj e.symm)]
    have hsi:(listed.setIfInBounds i true).getD i false=true:=by
     simp[Array.getD_eq_getD_getElem?,hlisted]
    have key:∀ S2:St,S2.fr=S'.fr->S2.bx=S'.bx->(S2.gn=if(listed.setIfInBounds i true).getD m false then gn1 else S.gn)->Sound P o' S' ⟨True,v i,S2⟩->wpOp P ops (lift Q G0 w0) i (wpAny P .any ops (lift Q G0 w0) (f+(ops.size-n)) (listed.setIfInBounds i true)) a w:=by
     intro S2 r1 r2 r3 hsd;obtain⟨nx,u,w',G',x1,x2,x3,x4,x5,x6⟩:=hsd trivial G w a hr;unfold wpOp;simp only[ho];rw[if_pos (Vao hg a)];refine .inl ?_
     have next:∀ u,RepS G' w' (v i) u->wpAny P .any ops (lift Q G0 w0) (f+(ops.size-n)) (listed.setIfInBounds i true) (a.put o'.dst u) w':=by
      intro u hu;refine ih _ G' w' _ (S2.put (some (d i)) (v i)) ?_ (by simp[hsz]) (λj hj=>?_) (r2.trans h1) r3 (by simp[St.put,r1,h3]) (λj hj hl=>?_) (λt ht=>?_) (by rw[hdst];exact x4.put (some (d i)) hu) (hst.trans x3) (λi hi=>(x6 i hi).trans (how i hi))
      ·exact Vij hin (by simp[hun]) (by simp[hsi]) (λj hj=>by rw[hsm j hj]) hb
      ·rw[hsm j kv];exact hun0 j hj
      ·simp only[St.put,Zw,r1]
       by_cases hji:d i=d j
       ·have:=hinj i j hin hj hji;subst this;rw[if_pos rfl,if_pos (by rw[h3];exact hlt i hin)]
       ·rw[if_neg hji];refine h4 j hj ?_;rw[<-hl,hsm j (λe=>hji (by rw[e]))]
      ·simp only[St.put,Zw,r1];rw[if_neg (λe=>ht i hin e.symm)];exact h5 t ht
     unfold Oper.wp;rw[x1];rcases x2 with rfl|⟨rfl,rfl⟩
     ·rw[Oper.upon_value];exact next _ x5
     ·rw[Oper.upon_skip];exact next _ x5
    by_cases him:i=m
    ·subst him;rw[hun]at h2;exact key {S' with gn:=gn1} rfl rfl (by rw[hsi];rfl) (hq2 rfl h2)
    ·exact key S' rfl rfl (by rw[hsm m (λe=>him e.symm)];exact h2) (hq1 him)
 have:=main ((Zq n).countP (λi=> !(Array.replicate ops.size false).getD i false)) (Array.replicate ops.size false) G0 _ a0 S rfl ku (λj _=>getD_replicate_false _ _) rfl (by rw[getD_replicate_false];rfl) rfl (λj _ hl=>by rw[getD_replicate_false]at hl;cases hl) (λ_ _=>rfl) hr0' hstep0 (λ_ _=>rfl)
 have hcnt:(Zq n).countP (λi=> !(Array.replicate ops.size false).getD i false)=n:=by
  rw[List.countP_eq_length.2 (λi _=>by rw[getD_replicate_false];rfl),List.length_range]
 rw[hcnt,show n+(ops.size-n)=ops.size by omega]at this;exact this
end Go.Eng
namespace Go.Eng
variable {P:Program}
theorem WO_maps{ops:Array Oper}{o1 o2 o3:Oper}{rest:List Oper}{Q:St->Prop}{S:St}{t m1 m2 d1 d2 bt b1 b2:Nat}{pl:List (Nat×Nat)}{S2:St}{l2:List SV}
  (ho1:(o1.op,o1.dst,o1.guard)=(.build t #[(0,.tmp m1),(1,.tmp m2)],some d1,none)) (ho2:(o2.dst,o2.guard)=(some d2,none)) (ho3:(o3.op,o3.dst,o3.guard)=(.store t (.tmp d2) (.tmp d1),none,none))
  (hi:Vak P t=some (2,bt,some (.agg #[.map none,.map none]))) (hpl:Vf9 P t=some pl) (hp0:pl[0]? =some (0,1)) (hp1:pl[1]? =some (1,1)) (hm1:S.fr[m1]? =some (.mp b1)) (hm2:S.fr[m2]? =some (.mp b2)) (hl1:d1<S.fr.length) (hl3:d2<S.fr.length) (hne:(m1≠d1/\m2≠d1/\d1≠d2)/\m1≠d2/\m2≠d2)
  (ha:Vb6 P o2 (S.put (some d1) .junk)=some ⟨True,.ptr d2 0,S2⟩) (h1':(S2.put (some d2) (.ptr d2 0)).fr[m1]? =some (.mp b1)) (h2':(S2.put (some d2) (.ptr d2 0)).fr[m2]? =some (.mp b2)) (hb2:S2.bx.lookup d2=some (.cells t l2)) (hlen:l2.length=2)
  (h:WO P ops rest Q ((S2.put (some d2) (.ptr d2 0)).setBox d2 (.cells t [.mp b1,.mp b2]))):WO P ops (o1::o2::o3::rest) Q S:=by
 simp only[Prod.mk.injEq]at ho1 ho2 ho3;obtain⟨ho1,hd1,hg1⟩:=ho1;obtain⟨hd2,hg2⟩:=ho2;obtain⟨ho3,hd3,hg3⟩:=ho3;intro more Q' G w a hr hq
 have hsz:a.tmps.size=S.fr.length:=hr.size.symm
 have r1:=hr.fr m1 _ hm1
 have r2:=hr.fr m2 _ hm2;obtain⟨u1,eu1⟩:∃ u,a.eval (.tmp m1)=u:=⟨_,rfl⟩
 obtain⟨u2,eu2⟩:∃ u,a.eval (.tmp m2)=u:=⟨_,rfl⟩
 have r1':RepS G w (.mp b1) u1:=by rw[<-eu1];exact r1
 have r2':RepS G w (.mp b2) u2:=by rw[<-eu2];exact r2
 obtain⟨k1,q1,rfl⟩:=id r1';obtain⟨k2,q2,rfl⟩:=id r2'
 have hf:Instr.fill (λi=>pl[i]?) (Value.agg #[.map none,.map none]).cells [(0,.map (some k1)),(1,.map (some k2))]=some #[.map (some k1),.map (some k2)]:=by
  have h0:Instr.fill (λi=>([(0,1),(1,1)]:List (Nat×Nat))[i]?) (Value.agg #[.map none,.map none]).cells [(0,.map (some k1)),(1,.map (some k2))]=some #[.map (some k1),.map (some k2)]:=by kernel_rfl
  refine Vhe (p2:=λi=>pl[i]?) (λi q hq=>?_) _ _ _ h0
  match i,hq with
  |0,hq=>rw[hp0];exact hq
  |1,hq=>rw[hp1];exact hq
  |i+2,hq=>simp at hq
 have x1:(execOp a.eval o1).run P w=.ok (.value (.agg #[.map (some k1),.map (some k2)])) w:=by
  unfold Vf9 at hpl
  split at hpl
  ·rename_i fs hu
   have hmm:=run_places w fs.toList _ hpl
   have hm2:(fs.mapM (λf=>do pure (f.offset, <-sizeOf f.type)):Sem (Array (Nat×Nat))).run P w=.ok pl.toArray w:=by
    rw[Array.mapM_eq_mapM_toList];simp only[Sem.run_map,hmm,Result.andThen_ok]
   simp only[bind_pure_comp]at hm2;simp[execOp,ho1,Instr.build,Vam hi,Va0 hu,hm2,eu1,eu2,hf]
  ·simp at hpl
 simp only[List.cons_append,wpList];rw[if_pos (Vao hg1 a)];refine .inl ?_;unfold Oper.wp;rw[x1,Oper.upon_value,hd1]
 have hr1:Rel G w (S.put (some d1) .junk) (a.put (some d1) (.agg #[.map (some k1),.map (some k2)])):=hr.put (some d1) trivial
 have ed1:(a.put (some d1) (.agg #[.map (some k1),.map (some k2)])).eval (.tmp d1)=.agg #[.map (some k1),.map (some k2)]:=Nb_same kv
 have em1:(a.put (some d1) (.agg #[.map (some k1),.map (some k2)])).eval (.tmp m1)=.map (some k1):=by rw[Vhq hne.1.1];exact eu1
 have em2:(a.put (some d1) (.agg #[.map (some k1),.map (some k2)])).eval (.tmp m2)=.map (some k2):=by rw[Vhq hne.1.2.1];exact eu2
 have esz:(a.put (some d1) (.agg #[.map (some k1),.map (some k2)])).tmps.size=S.fr.length:=by rw[<-hr1.size];simp[St.put]
 generalize a.put (some d1) (.agg #[.map (some k1),.map (some k2)])=a9 at hr1 ed1 em1 em2 esz ⊢;rw[if_pos (Vao hg2 _)];refine .inl ?_
 try unfold Oper.wp
 obtain⟨nx,v,w',G',y1,y2,y3,y4,y5,y6⟩:=Vau ha trivial G w a9 hr1;obtain⟨blk,p1,rfl⟩:=id y5;rw[y1];rcases y2 with rfl|⟨_,e⟩
 ·rw[Oper.upon_value,hd2]
  have hr3:=y4.put (some d2) y5
  have s1:=hr3.fr m1 _ h1'
  have s2:=hr3.fr m2 _ h2'
  have e1:(a9.put (some d2) (.pointer (some ⟨blk,0,none⟩))).eval (.tmp d1)=.agg #[.map (some k1),.map (some k2)]:=by rw[Vhq hne.1.2.2];exact ed1
  have e2:(a9.put (some d2) (.pointer (some ⟨blk,0,none⟩))).eval (.tmp d2)=.pointer (some ⟨blk,0,none⟩):=Nb_same kv
  have e3:(a9.put (some d2) (.pointer (some ⟨blk,0,none⟩))).eval (.tmp m1)=.map (some k1):=by rw[Vhq hne.2.1];exact em1
  have e4:(a9.put (some d2) (.pointer (some ⟨blk,0,none⟩))).eval (.tmp m2)=.map (some k2):=by rw[Vhq hne.2.2];exact em2
  rw[show(a9.put (some d2) (.pointer (some ⟨blk,0,none⟩))).tmps.getD m1 undef=.map (some k1)from e3]at s1;rw[show(a9.put (some d2) (.pointer (some ⟨blk,0,none⟩))).tmps.getD m2 undef=.map (some k2)from e4]at s2;generalize a9.put (some d2) (.pointer (some ⟨blk,0,none⟩))=a3 at hr3 e1 e2 ⊢;obtain⟨w3,z1,z2,z3⟩:=hr3.storeBox hb2 p1 0 (xs:=[.mp b1,.mp b2]) (vs:=[.map (some k1),.map (some k2)]) ⟨_,_,rfl,s1,_,_,rfl,s2,rfl⟩ (by intro x hx;simp only[Zb,List.not_mem_nil,or_false]at hx;rcases hx with rfl|rfl <;>rfl) (by simp;omega);rw[show l2.take 0++[SV.mp b1,.mp b2]++l2.drop (0+[SV.mp b1,.mp b2].length)=[.mp b1,.mp b2] by rw[List.take_zero,List.nil_append,List.drop_eq_nil_of_le (by simp;omega),List.append_nil]]at z3;rw[if_pos (Vao hg3 _)];refine .inl ?_
  try unfold Oper.wp
  have x3:(execOp a3.eval o3).run P w'=.ok .skip w3:=by
   simp[execOp,ho3,e1,e2,Instr.storeAt,Instr.sureAddr,storeVar,Vab hi,Value.cells,z1 P]
  rw[x3,Oper.upon_skip,hd3];exact h more Q' _ _ _ z3 (λS' G2 a2 w4 t1 t2 t3 t4=>hq S' G2 a2 w4 t1 ((y3.trans z2).trans t2) t3 (λi hi'=>(t4 i hi').trans (y6 i hi')))
 ·cases e
theorem rowsG_lk(b e:Nat)(R:Nat->List AV)(n:Nat)(κ:Key):(rowsG b e R n).lookup κ=if κ.2=e+1/\b<=κ.1/\κ.1<b+n then some (R (κ.1-b)).length else none:=by
 have gen:∀(l:List Nat),(l.map (λj=>(rowK b e j,(R j).length))).lookup κ=if κ.2=e+1/\b<=κ.1/\(κ.1-b)∈l then some (R (κ.1-b)).length else none:=by
  intro l
  induction l with
  |nil=>simp
  | cons j l ih=>
   rw[List.map_cons,List.lookup_cons]
   by_cases h:κ=rowK b e j
   ·subst h;simp[rowK]
   ·rw[show(κ==rowK b e j)=false by rw[beq_eq_false_iff_ne];exact h];simp only[];rw[ih]
    have:(κ.2=e+1/\b<=κ.1/\κ.1-b∈j::l) ↔ (κ.2=e+1/\b<=κ.1/\κ.1-b∈l):=by
     constructor
     ·rintro⟨h1,h2,h3⟩;refine⟨h1,h2,?_⟩;rcases Zb.1 h3 with h3|h3
      ·exact absurd (show κ=rowK b e j from by
        obtain⟨k1,k2⟩:=κ;simp only[rowK,Prod.mk.injEq]at h1 h2 h3 ⊢
        exact⟨by omega,h1⟩) h
      ·exact h3
     ·rintro⟨h1,h2,h3⟩;exact⟨h1,h2,List.mem_cons_of_mem _ h3⟩
    simp only[this]
 have:=gen (Zq n);rw[rowsG,this]
 have h2:(κ.2=e+1/\b<=κ.1/\κ.1-b∈Zq n) ↔ (κ.2=e+1/\b<=κ.1/\κ.1<b+n):=by
  rw[List.mem_range];constructor <;>rintro⟨h1,h2,h3⟩ <;>exact⟨h1,h2,by omega⟩
 simp only[h2]
def rwF(la:List (List Int)):Nat->List AV:=λj=>(la.getD j []).map (λi=>.val (.int .i64 i))
def Vbq(ks:List Int)(la:List (List Int))(n i:Int):List (List Int):=match Vbp ks n with
 |some j=>la.set j (la.getD j []++[i])
 |none=>la++[[i]]
def rowJ(ks:List Int)(la:List (List Int))(n:Int):Nat:=(Vbp ks n).getD la.length
theorem Vg2{ks:List Int}{s:Int}{j:Nat}(h:Vbp ks s=some j):j<ks.length:=by
 have:=Vfk h;rcases Zj j ks.length with h|h
 ·exact h
 ·simp[Zg h]at this
theorem Vi4{ks:List Int}{la:List (List Int)}(h:ks.length=la.length)(n i:Int):(Vbq ks la n i).length=(Vh8 ks n).length:=by
 unfold Vbq Vh8;cases Vbp ks n <;>simp[h]
theorem Vk5{ks:List Int}{la:List (List Int)}(h:ks.length=la.length)(n i:Int)(j:Nat):rwF (Vbq ks la n i) j=if j=rowJ ks la n then rwF la j++[.val (.int .i64 i)]else rwF la j:=by
 unfold Vbq rowJ rwF;cases hp:Vbp ks n with
 |some k=>
  have hk:=Vg2 hp;simp only[Zr]
  by_cases e:j=k
  ·subst e;rw[if_pos rfl,Ze,List.getElem?_set_self kv,Zr];simp
  ·rw[if_neg e,Ze,List.getElem?_set_ne (λq=>e q.symm), <-Ze]
 | none=>
  simp only[Option.getD_none]
  by_cases e:j=la.length
  ·subst e;rw[if_pos rfl];simp
  ·rw[if_neg e];simp only[Ze];rcases Zj j la.length with q|q
   ·rw[Zs q]
   ·rw[Zg (l:=la) kv,Zg (l:=la++[[i]]) (by simp;omega)]
theorem rowAdd_rows{ks:List Int}{la:List (List Int)}(h:ks.length=la.length)(b e:Nat)(n i:Int):
  mputS ks (Vdb b e (rwF la) la.length) n (.own (rowK b e (rowJ ks la n)) ((rwF la (rowJ ks la n)).length+1) 1 (rwF la (rowJ ks la n)++[.val (.int .i64 i)]))=Vdb b e (rwF (Vbq ks la n i)) (Vbq ks la n i).length:=by
 apply Zx;intro j
 have hR:(Vdb b e (rwF (Vbq ks la n i)) (Vbq ks la n i).length)[j]? =if j<(Vbq ks la n i).length then some (.own (rowK b e j) (rwF (Vbq ks la n i) j).length 1 (rwF (Vbq ks la n i) j))else none:=by
  simp only[Vdb,Zk]
  split
  ·rename_i q;rw[List.getElem?_range q];rfl
  ·rename_i q;rw[Zg (by simp;omega)];rfl
 have hL:(Vdb b e (rwF la) la.length)[j]? =if j<la.length then some (.own (rowK b e j) (rwF la j).length 1 (rwF la j))else none:=by
  simp only[Vdb,Zk]
  split
  ·rename_i q;rw[List.getElem?_range q];rfl
  ·rename_i q;rw[Zg (by simp;omega)];rfl
 have hln:(Vdb b e (rwF la) la.length).length=la.length:=by simp[Vdb]
 rw[hR,Vk5 h];unfold mputS
 have hlen:=Vi4 h n i;unfold Vh8 at hlen;cases hp:Vbp ks n with
 |some k=>
  have hk:=Vg2 hp;rw[hp]at hlen;simp only[rowJ,hp,Zr]at hlen ⊢;rw[Zw,hL,hln]
  by_cases q:k=j
  ·subst q;rw[if_pos rfl,if_pos kv,if_pos kv,if_pos rfl];simp
  ·rw[if_neg q,show(Vbq ks la n i).length=la.length by omega];simp only[if_neg (show ¬j=k from λe=>q e.symm)]
 | none=>
  rw[hp]at hlen;simp only[rowJ,hp,Option.getD_none,Zt,List.length_singleton]at hlen ⊢
  by_cases q:j=la.length
  ·subst q;rw[if_pos kv,if_pos rfl,List.getElem?_append_right kv,hln,Nat.sub_self];simp
  ·simp only[if_neg q];rcases Zj j la.length with r|r
   ·rw[Zs kv,hL,if_pos r,if_pos kv]
   ·rw[Zg (by simp[hln];omega),if_neg kv]
def rnB2:Nat:=1099511627776
def rnG(e:Nat)(la ld:List (List Int)):List (Key×Nat):=rowsG 5000 e (rwF la) la.length++rowsG rnB2 e (rwF ld) ld.length
theorem Vk6(e:Nat)(la ld:List (List Int))(hl:la.length<=2147483648)(κ:Key):((rnG e la ld).lookup κ).getD 0=if κ.2=e+1/\5000<=κ.1/\κ.1<1099511627776 then(rwF la (κ.1-5000)).length else if κ.2=e+1/\1099511627776<=κ.1 then(rwF ld (κ.1-1099511627776)).length else 0:=by
 have h0:∀(l:List (List Int))(j:Nat),l.length<=j->(rwF l j).length=0:=λl j hj=>by
  simp[rwF,Zg hj]
 rw[rnG,List.lookup_append,rowsG_lk,rowsG_lk];unfold rnB2
 by_cases h1:κ.2=e+1/\5000<=κ.1/\κ.1<5000+la.length
 ·rw[if_pos h1,Option.some_or,if_pos kv];rfl
 ·rw[if_neg h1,Option.none_or]
  by_cases h2:κ.2=e+1/\1099511627776<=κ.1/\κ.1<1099511627776+ld.length
  ·rw[if_pos h2,if_neg (show ¬(κ.2=e+1/\5000<=κ.1/\κ.1<1099511627776) by omega),if_pos kv];rfl
  ·rw[if_neg h2];simp only[Option.getD_none]
   split
   ·rename_i h3;rw[h0];omega
   ·split
    ·rename_i h3 h4;rw[h0];omega
    ·rfl
theorem rnG_nextA{S:St}{e:Nat}{la ld:List (List Int)}{ks:List Int}(hg:S.gn=rnG e la ld)(hk:ks.length=la.length)(hl:la.length<2147483648)(n i:Int)(κ:Key):(S.next (rowK 5000 e (rowJ ks la n))).gen κ=((rnG e (Vbq ks la n i) ld).lookup κ).getD 0:=by
 have hG:∀ κ,S.gen κ=((rnG e la ld).lookup κ).getD 0:=λκ=>by rw[<-hg];rfl
 have hj:rowJ ks la n<=la.length:=by
  unfold rowJ;cases hp:Vbp ks n with
  |none=>simp
  |some k=>have:=Vg2 hp;simp;omega
 have hlen:(Vbq ks la n i).length<=la.length+1:=by
  rw[Vi4 hk];unfold Vh8;cases Vbp ks n <;>simp <;>omega
 rw[Vpc,hG,hG,Vk6 _ _ _ kv,Vk6 _ _ _ kv,Vk6 _ _ _ kv,Vk5 hk]
 by_cases h:κ=rowK 5000 e (rowJ ks la n)
 ·subst h;rw[if_pos rfl]
  have e1:(rowK 5000 e (rowJ ks la n)).2=e+1:=rfl
  have e2:(rowK 5000 e (rowJ ks la n)).1=5000+rowJ ks la n:=rfl;rw[if_pos kv,if_pos kv,e2,Nat.add_sub_cancel_left,if_pos rfl];simp
 ·rw[if_neg h]
  by_cases h2:κ.2=e+1/\5000<=κ.1/\κ.1<1099511627776
  ·rw[if_pos h2,if_pos h2,if_neg];intro h3
   exact h (by
    obtain⟨k1,k2⟩:=κ;simp only[rowK,Prod.mk.injEq]at h2 h3 ⊢
    exact⟨by omega,h2.1⟩)
  ·rw[if_neg h2,if_neg h2]
theorem rnG_nextD{S:St}{e:Nat}{la ld:List (List Int)}{ks:List Int}(hg:S.gn=rnG e la ld)(hk:ks.length=ld.length)(hl:la.length<2147483648)(n i:Int)(κ:Key):(S.next (rowK rnB2 e (rowJ ks ld n))).gen κ=((rnG e la (Vbq ks ld n i)).lookup κ).getD 0:=by
 have hG:∀ κ,S.gen κ=((rnG e la ld).lookup κ).getD 0:=λκ=>by rw[<-hg];rfl
 rw[Vpc,hG,hG,Vk6 _ _ _ kv,Vk6 _ _ _ kv,Vk6 _ _ _ kv,Vk5 hk]
 by_cases h:κ=rowK rnB2 e (rowJ ks ld n)
 ·have e1:κ.2=e+1:=by rw[h];rfl
  have e2:κ.1=1099511627776+rowJ ks ld n:=by rw[h];rfl
  have hA:¬ (κ.2=e+1/\5000<=κ.1/\κ.1<1099511627776):=by omega
  have hB:κ.2=e+1/\1099511627776<=κ.1:=by omega
  rw[<-h,if_pos rfl];simp only[if_neg hA,if_pos hB];rw[e2,Nat.add_sub_cancel_left,if_pos rfl];simp
 ·rw[if_neg h]
  by_cases h2:κ.2=e+1/\5000<=κ.1/\κ.1<1099511627776
  ·rw[if_pos h2,if_pos h2]
  ·rw[if_neg h2,if_neg h2]
   by_cases h3:κ.2=e+1/\1099511627776<=κ.1
   ·rw[if_pos h3,if_pos h3,if_neg];intro h4
    exact h (by
     obtain⟨k1,k2⟩:=κ;simp only[rowK,rnB2,Prod.mk.injEq]at h3 h4 ⊢
     exact⟨by omega,h3.1⟩)
   ·rw[if_neg h3,if_neg h3]
theorem mgetS_rows{ks:List Int}{la:List (List Int)}(h:ks.length=la.length)(b e:Nat)(n:Int):mgetS ks (Vdb b e (rwF la) la.length) n=(match Vbp ks n with
 |some _=>.own (rowK b e (rowJ ks la n)) (rwF la (rowJ ks la n)).length 1 (rwF la (rowJ ks la n))
 |none=>.nil):=by
 unfold mgetS rowJ;cases hp:Vbp ks n with
 |none=>rfl
 |some j=>
  have:=Vg2 hp;simp only[Zr,Ze,rowsS_get (show j<la.length by omega)]
end Go.Eng
