/- Texts joined by a program (merge.py). -/
import Derived.WalkKit
import Derived.Lib.Strings
import Derived.MapKept
import Derived.Laws.MakeOwn
import Derived.KernelRfl
set_option linter.unusedSimpArgs false
set_option linter.unusedVariables false
open Option.some renaming injEq -> Za
open Option renaming map_eq_some_iff -> Zb
open Array renaming length_toList -> Zc
open Prod.mk renaming injEq -> Zd
open List renaming mem_append -> Ze
open List renaming getElem?_eq_none -> Zf
open List renaming mem_of_mem_take -> Zg
open List renaming mem_of_mem_drop -> Zh
open List renaming flatMap_cons -> Zi
open List renaming length_append -> Zj
open List renaming length_eq_zero_iff -> Zk
open List renaming any_eq_false -> Zl
open List renaming getElem?_append_left -> Zm
open List renaming replicate -> Zn
open Option renaming map_some -> Zo
open Nat renaming succ_mul -> Zp
open Nat renaming le_trans -> Zq
open Nat renaming lt_or_ge -> Zr
open List renaming mem_of_getElem? -> Zs
open List renaming mem_flatMap -> Zt
open List renaming map_cons -> Zu
open List renaming getElem?_map -> Zv
open List renaming getElem?_take -> Zw
open Nat renaming mul_le_mul_right -> Zx
open Nat renaming lt_of_lt_of_le -> Zy
open List renaming mem_map -> Zz
open List renaming all_eq_true -> Z0
open Nat renaming add_assoc -> Z1
open List renaming mem_cons -> Z2
open Nat renaming add_mul -> Z3
open List renaming length_take -> Z4
open List renaming getElem?_drop -> Z5
open Bool renaming false_eq_true -> Z6
open List renaming length -> Z7
open List renaming size_toArray -> Z8
open List renaming drop_of_length_le -> Z9
open Option renaming bind_some -> Ya
open List renaming zipIdx_cons -> Yb
open List renaming range -> Yc
open List renaming length_drop -> Yd
open List renaming take_append_of_le_length -> Ye
open Bool renaming or_eq_false_iff -> Yf
open List renaming foldl_cons -> Yg
theorem kx{p:Prop}(h:p:=by kernel_rfl):p:=h
theorem kv{p:Prop}(h:p:=by omega):p:=h
theorem ky{p:Prop}(h:p:=by first | assumption | omega | decide | (simp; done) | (simp; omega)):p:=h
theorem ku{p:Prop}(h:p:=by simp):p:=h
theorem gj{p:Prop}(h:p:=by decide):p:=h
theorem gk{p:Prop}(h:p:=by first | omega | (simp; omega)):p:=h
namespace Go.Eng
inductive AV where
 |val (v:Value)
 |sl (l:List AV)
 |agg (l:List AV)
 |tup (l:List AV)
 |ro (l:List AV) (off:Nat)
 |rm (ks:List ByteArray) (vs:List AV)
 |fs (n t:Nat) (l:List AV)
 |im (ks:List Int) (vs:List AV)
 |fz (t:Nat) (l:List AV)
abbrev Key:=Nat×Nat
inductive PV where
 |av (x:AV)
 |ptr (b off:Nat)
 |mp (b:Nat)
inductive CV where
 |av (x:AV)
 |nil
 |own (k:Key) (g sz:Nat) (l:List AV)
inductive XV where
 |c (x:CV)
 |a (l:List CV)
inductive SV where
 |junk
 |nil
 |av (x:AV)
 |ptr (b off:Nat)
 |mp (b:Nat)
 |own (k:Key) (g sz:Nat) (l:List AV)
 |fn (f:FuncId) (fs cs:List PV)
 |son (b:Nat)
 |vs (b n:Nat)
 |vp (b sz:Nat) (i:Int) (off:Nat)
 |vw (b sz o n:Nat)
 |ag (l:List CV)
 |tp (l:List XV)
 |clo (l:List AV)
inductive ABox where
 |cells (t:TypeId) (l:List SV)
 |map (ks:List ByteArray) (vs:List AV)
 |vec (e sz:Nat) (l:List AV)
 |ge (n:Nat)
 |vck (e sz:Nat) (l:List AV)
 |it (s:ByteArray) (pos:Nat)
 |gl (b:Nat) (vs:List Value)
 |mi (ks:List Int) (l:List SV)
abbrev Fx(i:Nat):Prop:=1000<=i/\i<2000
structure St where
 fr:List SV
 bx:List (Nat×ABox)
 gn:List (Key×Nat)
structure Gh where
 U:Nat->Nat
 cp:Nat->Nat
 ow:Key->Option Nat
 gen:Key->Nat
 df:List Deferred
def Va1(es:List Value):List Value:=es.flatMap (λe=>e.cells.toList)
def Lies(U:Nat->Nat)(w:World)(a:Option Addr)(cs:List Value):Prop:=
 cs=[]\/∃ b off,a=some ⟨b,off,none⟩/\off+cs.length<=U b/\
  ∀j x,cs[j]? =some x->w.cell? ⟨b,off+j,none⟩=some x/\x.oneCell'=true
def TyB(w:World)(b e:Nat):Prop:=∃ arr m,w.heap[b]? =some (.cells arr e m)
def PlB(w:World)(b e:Nat):Prop:=∃ arr,w.heap[b]? =some (.cells arr e (0,0))
def FzB(w:World)(b off n:Nat):Prop:=∃ arr e lo hi,w.heap[b]? =some (.cells arr e (lo,hi))/\lo<=off/\off+n<=hi
mutual
def Rep(U:Nat->Nat)(w:World):AV->Value->Prop
  | .val v,u=>u=v/\v.oneCell'=true
  | .sl l,u=>∃ a cap es sz,u=.slice a l.length cap/\RepL U w l es/\(∀e∈es,e.cells.size=sz)/\(a=none->es=[])/\(l.length<=cap)/\(l≠[]->∀ ad,a=some ad->ad.spot=none)/\Lies U w a (Va1 es)
  | .fs n t l,u=>∃ a cap es sz,u=.slice a l.length cap/\RepL U w l es/\(∀e∈es,e.cells.size=sz)/\(a=none->es=[])/\(l.length<=cap)/\(l≠[]->∀ ad,a=some ad->ad.spot=none)/\Lies U w a (Va1 es)/\(Va1 es≠[]->∀ ad,a=some ad->n<=ad.block/\TyB w ad.block t/\(t≠5->PlB w ad.block t))
  | .agg l,u=>∃ us,u=.agg us/\RepL U w l us.toList/\∀ x∈us.toList,x.oneCell'=true
  | .tup l,u=>∃ us,u=.tuple us/\RepL U w l us.toList
  | .ro l off,u=>∃ b o us,u=.pointer (some ⟨b,o+off,none⟩)/\RepL U w l us/\o+us.length<=U b/\
      (∀j x,us[j]? =some x->w.cell? ⟨b,o+j,none⟩=some x/\x.oneCell'=true)
  | .rm ks vs,u=>∃ b ents clock,u=.map (some b)/\1<=U b/\w.heap[b]? =some (.map ents clock)/\ents.toList.map (·.key)=ks.map .string/\RepL U w vs (ents.toList.map (·.val))
  | .fz t l,u=>∃ a cap es sz,u=.slice a l.length cap/\RepL U w l es/\(∀e∈es,e.cells.size=sz)/\(a=none->es=[])/\(l.length<=cap)/\(l≠[]->∀ ad,a=some ad->ad.spot=none)/\Lies U w a (Va1 es)/\(Va1 es≠[]->∀ ad,a=some ad->TyB w ad.block t/\FzB w ad.block ad.off (Va1 es).length)
  | .im ks vs,u=>∃ b ents clock,u=.map (some b)/\1<=U b/\w.heap[b]? =some (.map ents clock)/\ents.toList.map (·.key)=ks.map (.int .i64)/\RepL U w vs (ents.toList.map (·.val))
def RepL(U:Nat->Nat)(w:World):List AV->List Value->Prop
 |[],us=>us=[]
 |x::l,us=>∃ u us',us=u::us'/\Rep U w x u/\RepL U w l us'
end
structure Imm (U:Nat->Nat) (w w':World):Prop where
 cell:∀ b o,o<U b->w'.cell? ⟨b,o,none⟩=w.cell? ⟨b,o,none⟩
 map:∀ b ents clock,1<=U b->w.heap[b]? =some (.map ents clock)->w'.heap[b]? =some (.map ents clock)
 typ:∀ b e,1<=U b->TyB w b e->TyB w' b e
 frz:∀ b off n,1<=U b->n≠0->FzB w b off n->FzB w' b off n
 pln:∀ b e,1<=U b->e≠5->PlB w b e->PlB w' b e
theorem Lies.mono{U U':Nat->Nat}{w w':World}(hU:∀ b,U b<=U' b)(hw:Imm U w w'){a:Option Addr}{cs:List Value}(h:Lies U w a cs):Lies U' w' a cs:=by
 rcases h with h|⟨b,off,ha,hle,hc⟩
 ·exact .inl h
 ·refine .inr ⟨b,off,ha,Zq hle (hU b),λj x hx=>?_⟩
  have hj:j<cs.length:=by
   rcases Zr j cs.length with h|h
   ·exact h
   ·simp[Zf h]at hx
  rw[hw.cell b (off+j) kv];exact hc j x hx
mutual
theorem Rep.mono{U U':Nat->Nat}{w w':World}(hU:∀ b,U b<=U' b)(hw:Imm U w w'):∀(x:AV)(u:Value),Rep U w x u->Rep U' w' x u
 | .val _,_,h=>by simpa only[Rep]using h
 | .sl l,u,h=>by
  simp only[Rep]at h ⊢;obtain⟨a,cap,es,sz,h1,h2,h3,h4,h5,h6,h7⟩:=h;exact⟨a,cap,es,sz,h1,RepL.mono hU hw l es h2,h3,h4,h5,h6,h7.mono hU hw⟩
 | .fs n t l,u,h=>by
  simp only[Rep]at h ⊢;obtain⟨a,cap,es,sz,h1,h2,h3,h4,h5,h6,h7,h8⟩:=h;refine⟨a,cap,es,sz,h1,RepL.mono hU hw l es h2,h3,h4,h5,h6,h7.mono hU hw,λhv ad had=>?_⟩
  have hU1:1<=U ad.block:=by
   rcases h7 with h7|⟨b,off,ha,hle,_⟩
   ·exact absurd h7 hv
   ·rw[ha]at had;simp only[Za]at had;subst had
    have:0<(Va1 es).length:=List.length_pos_iff.2 hv
    show 1<=U b;omega
  exact⟨(h8 hv ad had).1,hw.typ _ _ hU1 (h8 hv ad had).2.1,λht=>hw.pln _ _ hU1 ht ((h8 hv ad had).2.2 ht)⟩
 | .fz t l,u,h=>by
  simp only[Rep]at h ⊢;obtain⟨a,cap,es,sz,h1,h2,h3,h4,h5,h6,h7,h8⟩:=h;refine⟨a,cap,es,sz,h1,RepL.mono hU hw l es h2,h3,h4,h5,h6,h7.mono hU hw,λhv ad had=>⟨hw.typ _ _ ?_ (h8 hv ad had).1,hw.frz _ _ _ ?_ (λe=>hv (Zk.1 e)) (h8 hv ad had).2⟩⟩
  all_goals
   rcases h7 with h7|⟨b,off,ha,hle,_⟩
   ·exact absurd h7 hv
   ·rw[ha]at had;simp only[Za]at had;subst had
    have:0<(Va1 es).length:=List.length_pos_iff.2 hv
    show 1<=U b;omega
 | .agg l,u,h=>by
  simp only[Rep]at h ⊢;obtain⟨us,h1,h2,h3⟩:=h;exact⟨us,h1,RepL.mono hU hw l _ h2,h3⟩
 | .tup l,u,h=>by
  simp only[Rep]at h ⊢;obtain⟨us,h1,h2⟩:=h;exact⟨us,h1,RepL.mono hU hw l _ h2⟩
 | .ro l off,u,h=>by
  simp only[Rep]at h ⊢;obtain⟨b,o,us,h1,h2,h3,h4⟩:=h;refine⟨b,o,us,h1,RepL.mono hU hw l _ h2,Zq h3 (hU b),λj x hx=>?_⟩
  have hj:j<us.length:=by
   rcases Zr j us.length with h|h
   ·exact h
   ·simp[Zf h]at hx
  rw[hw.cell b (o+j) kv];exact h4 j x hx
 | .rm ks vs,u,h=>by
  simp only[Rep]at h ⊢;obtain⟨b,ents,clock,h1,h2,h3,h4,h5⟩:=h;exact⟨b,ents,clock,h1,Zq h2 (hU b),hw.map b ents clock h2 h3,h4,RepL.mono hU hw vs _ h5⟩
 | .im ks vs,u,h=>by
  simp only[Rep]at h ⊢;obtain⟨b,ents,clock,h1,h2,h3,h4,h5⟩:=h;exact⟨b,ents,clock,h1,Zq h2 (hU b),hw.map b ents clock h2 h3,h4,RepL.mono hU hw vs _ h5⟩
theorem RepL.mono{U U':Nat->Nat}{w w':World}(hU:∀ b,U b<=U' b)(hw:Imm U w w'):∀(l:List AV)(us:List Value),RepL U w l us->RepL U' w' l us
 |[],_,h=>by simpa only[RepL]using h
 |x::l,us,h=>by
  simp only[RepL]at h ⊢;obtain⟨u,us',h1,h2,h3⟩:=h;exact⟨u,us',h1,Rep.mono hU hw x u h2,RepL.mono hU hw l us' h3⟩
end
theorem Rep.fz_sl{U:Nat->Nat}{w:World}{t:Nat}{l:List AV}{u:Value}(h:Rep U w (.fz t l) u):Rep U w (.sl l) u:=by
 simp only[Rep]at h ⊢;obtain⟨a,cap,es,sz,h1,h2,h3,h4,h5,h6,h7,_⟩:=h;exact⟨a,cap,es,sz,h1,h2,h3,h4,h5,h6,h7⟩
theorem RepL.length{U:Nat->Nat}{w:World}:∀ {l:List AV} {us:List Value},RepL U w l us->us.length=l.length
 |[],_,h=>by simp only[RepL]at h;simp[h]
 |x::l,us,h=>by
  simp only[RepL]at h;obtain⟨u,us',rfl,_,h3⟩:=h;simp[RepL.length h3]
theorem RepL.get{U:Nat->Nat}{w:World}:∀ {l:List AV} {us:List Value},RepL U w l us->∀(i:Nat) x,l[i]? =some x->∃ u,us[i]? =some u/\Rep U w x u
 |[],_,_,i,x,hx=>by simp at hx
 |y::l,us,h,i,x,hx=>by
  simp only[RepL]at h;obtain⟨u,us',rfl,h2,h3⟩:=h;cases i with
  |zero=>simp at hx;subst hx;exact⟨u,rfl,h2⟩
  |succ i=>simp at hx;obtain⟨v,hv,hr⟩:=RepL.get h3 i x hx;exact⟨v,by simpa using hv,hr⟩
theorem RepL.append{U:Nat->Nat}{w:World}:∀ {l l':List AV} {us us':List Value},RepL U w l us->RepL U w l' us'->RepL U w (l++l') (us++us')
 |[],_,_,_,h,h'=>by simp only[RepL]at h;subst h;simpa using h'
 |x::l,l',us,us',h,h'=>by
  simp only[RepL]at h;obtain⟨u,us1,rfl,h2,h3⟩:=h;simp only[List.cons_append,RepL];exact⟨u,us1++us',rfl,h2,RepL.append h3 h'⟩
theorem RepL.take{U:Nat->Nat}{w:World}:∀ {l:List AV} {us:List Value} (n:Nat),RepL U w l us->RepL U w (l.take n) (us.take n)
 |[],us,n,h=>by simp only[RepL]at h;subst h;simp[RepL]
 |x::l,us,0,h=>by simp[RepL]
 |x::l,us,n+1,h=>by
  simp only[RepL]at h;obtain⟨u,us1,rfl,h2,h3⟩:=h;simp only[List.take_succ_cons,RepL];exact⟨u,us1.take n,rfl,h2,RepL.take n h3⟩
theorem RepL.drop{U:Nat->Nat}{w:World}:∀ {l:List AV} {us:List Value} (n:Nat),RepL U w l us->RepL U w (l.drop n) (us.drop n)
 |[],us,n,h=>by simp only[RepL]at h;subst h;simp[RepL]
 |x::l,us,0,h=>by simpa using h
 |x::l,us,n+1,h=>by
  simp only[RepL]at h;obtain⟨u,us1,rfl,h2,h3⟩:=h;simpa using RepL.drop n h3
theorem RepL.set{U:Nat->Nat}{w:World}:∀ {l:List AV} {us:List Value} (n:Nat) {x:AV} {u:Value},RepL U w l us->Rep U w x u->RepL U w (l.set n x) (us.set n u)
 |[],us,n,x,u,h,_=>by simp only[RepL]at h;subst h;simp[RepL]
 |y::l,us,0,x,u,h,hx=>by
  simp only[RepL]at h;obtain⟨v,us1,rfl,h2,h3⟩:=h;simp only[List.set_cons_zero,RepL];exact⟨u,us1,rfl,hx,h3⟩
 |y::l,us,n+1,x,u,h,hx=>by
  simp only[RepL]at h;obtain⟨v,us1,rfl,h2,h3⟩:=h;simp only[List.set_cons_succ,RepL];exact⟨v,us1.set n u,rfl,h2,RepL.set n h3 hx⟩
def RepP(G:Gh)(w:World):PV->Value->Prop
 | .av x,u=>Rep G.U w x u
 | .ptr b o,u=>∃ blk,G.ow (b,0)=some blk/\u=.pointer (some ⟨blk,o,none⟩)
 | .mp b,u=>∃ blk,G.ow (b,0)=some blk/\u=.map (some blk)
def RepPs(G:Gh)(w:World):List PV->List Value->Prop
 |[],us=>us=[]
 |x::l,us=>∃ u us',us=u::us'/\RepP G w x u/\RepPs G w l us'
def CapZ(G:Gh)(w:World)(a:Option Addr):Prop:=a=none\/∃ ad e,a=some ad/\1<=G.U ad.block/\TyB w ad.block e
def RepOwn(G:Gh)(w:World)(k:Key)(g sz:Nat)(l:List AV)(u:Value):Prop:=
 0<k.2/\g<=G.gen k/\∃ a cap es,u=.slice a l.length cap/\RepL G.U w l es/\(∀e∈es,e.cells.size=sz)/\l.length<=cap/\(a=none->es=[])/\(∀ad,a=some ad->ad.spot=none)/\Lies G.U w a (Va1 es)/\
   (G.gen k=g->(cap=0/\CapZ G w a)\/∃ b off arr e,a=some ⟨b,off,none⟩/\G.ow k=some b/\w.heap[b]? =some (.cells arr e (0,0))/\off+cap*sz<=arr.size/\G.U b=off+l.length*sz/\e+1=k.2)
def RepC(G:Gh)(w:World):CV->Value->Prop
 | .av x,u=>Rep G.U w x u
 | .nil,u=>u=.slice none 0 0
 | .own k g sz l,u=>RepOwn G w k g sz l u
def RepCs(G:Gh)(w:World):List CV->List Value->Prop
 |[],us=>us=[]
 |x::l,us=>∃ u us',us=u::us'/\RepC G w x u/\RepCs G w l us'
def RepX(G:Gh)(w:World):XV->Value->Prop
 | .c x,u=>RepC G w x u
 | .a l,u=>∃ us,u=.agg us/\RepCs G w l us.toList/\∀ x∈us.toList,x.oneCell'=true
def RepXs(G:Gh)(w:World):List XV->List Value->Prop
 |[],us=>us=[]
 |x::l,us=>∃ u us',us=u::us'/\RepX G w x u/\RepXs G w l us'
def RepS(G:Gh)(w:World):SV->Value->Prop
 | .junk,_=>True
 | .nil,u=>u=.slice none 0 0
 | .av x,u=>Rep G.U w x u
 | .ptr b o,u=>∃ blk,G.ow (b,0)=some blk/\u=.pointer (some ⟨blk,o,none⟩)
 | .mp b,u=>∃ blk,G.ow (b,0)=some blk/\u=.map (some blk)
 | .own k g sz l,u=>RepOwn G w k g sz l u
 | .fn f fs cs,u=>∃ vs us,u=.func (.func f) vs us/\RepPs G w fs vs.toList/\RepPs G w cs us.toList
 | .vs b n,u=>(n=0/\u=.slice none 0 0/\G.ow (b,0)=none)\/∃ blk,blk<w.heap.size/\G.ow (b,0)=some blk/\u=.slice (some ⟨blk,0,none⟩) n (G.cp blk)/\n<=G.cp blk
 | .vw b sz o n,u=>∃ a cap,u=.slice a n cap/\n<=cap/\(n=0\/∃ blk,G.ow (b,0)=some blk/\a=some ⟨blk,o*sz,none⟩)
 | .vp b sz i o,u=>∃ blk,G.ow (b,0)=some blk/\u=.pointer (some ⟨blk,i.toNat*sz+o,none⟩)
 | .son b,u=>u=.pointer none\/∃ blk,G.ow (b,0)=some blk/\u=.pointer (some ⟨blk,0,none⟩)
 | .ag l,u=>∃ us,u=.agg us/\RepCs G w l us.toList/\∀ x∈us.toList,x.oneCell'=true
 | .tp l,u=>∃ us,u=.tuple us/\RepXs G w l us.toList
 | .clo l,u=>(∃b off,u=.slice (some ⟨b,off,none⟩) l.length l.length)/\Rep G.U w (.sl l) u
def CV.toSV:CV->SV
 | .av x=>.av x
 | .nil=>.nil
 | .own k g sz l=>.own k g sz l
def XV.toSV:XV->SV
 | .c x=>x.toSV
 | .a l=>.ag l
def CV.toAV:CV->AV
 | .av x=>x
 | .nil=>.sl []
 | .own _ _ _ l=>.sl l
def XV.toAV:XV->AV
 | .c x=>x.toAV
 | .a l=>.agg (l.map CV.toAV)
theorem RepC.toSV{G:Gh}{w:World}{x:CV}{u:Value}(h:RepC G w x u):RepS G w x.toSV u:=by cases x <;>exact h
theorem RepX.toSV{G:Gh}{w:World}{x:XV}{u:Value}(h:RepX G w x u):RepS G w x.toSV u:=by
 cases x with
 |c x=>exact RepC.toSV h
 |a l=>exact h
theorem RepXs.get{G:Gh}{w:World}:∀ {l:List XV} {us:List Value},RepXs G w l us->∀(i:Nat) x,l[i]? =some x->∃ u,us[i]? =some u/\RepX G w x u
 |[],_,_,i,x,hx=>by simp at hx
 |y::l,us,h,i,x,hx=>by
  obtain⟨u,us',rfl,h2,h3⟩:=h;cases i with
  |zero=>simp at hx;subst hx;exact⟨u,rfl,h2⟩
  |succ i=>simp at hx;obtain⟨v,hv,hr⟩:=RepXs.get h3 i x hx;exact⟨v,by simpa using hv,hr⟩
def RepSs(G:Gh)(w:World):List SV->List Value->Prop
 |[],us=>us=[]
 |x::l,us=>∃ u us',us=u::us'/\RepS G w x u/\RepSs G w l us'
def PV.keys:PV->List Key
 | .av _=>[]
 | .ptr b _=>[(b,0)]
 | .mp b=>[(b,0)]
def SV.keys:SV->List Key
 | .ptr b _=>[(b,0)]
 | .mp b=>[(b,0)]
 | .fn _ fs cs=>fs.flatMap PV.keys++cs.flatMap PV.keys
 | .son b=>[(b,0)]
 | .vs b _=>[(b,0)]
 | .vp b _ _ _=>[(b,0)]
 | .vw b _ _ _=>[(b,0)]
 |_=>[]
def Keep(G:Gh)(w:World)(G':Gh)(w':World)(κ:Key):Prop:=
 G'.ow κ=G.ow κ/\∀ b,G.ow κ=some b->w'.heap[b]? =w.heap[b]? /\G'.U b=G.U b
structure Ext (G:Gh) (w:World) (G':Gh) (w':World):Prop where
 U:∀ b,G.U b<=G'.U b
 imm:Imm G.U w w'
 size:w.heap.size<=w'.heap.size
 os:w'.os=w.os
 tape:(w'.tape,G'.df)=(w.tape,G.df)
 output:w'.output=w.output
 cp:∀ b,b<w.heap.size->G'.cp b=G.cp b
 gen:∀ κ,G.gen κ<=G'.gen κ
 tok:∀ κ:Key,0<κ.2->G'.gen κ=G.gen κ->Keep G w G' w' κ
theorem Ext.df{G G':Gh}{w w':World}(h:Ext G w G' w'):G'.df=G.df:=congrArg Prod.snd h.tape
theorem Ext.tp{G G':Gh}{w w':World}(h:Ext G w G' w'):w'.tape=w.tape:=congrArg Prod.fst h.tape
theorem RepP.persist{G G':Gh}{w w':World}(h:Ext G w G' w'){p:PV}{u:Value}(hk:∀ κ∈p.keys,G'.ow κ=G.ow κ)(hr:RepP G w p u):RepP G' w' p u:=by
 cases p with
 |av x=>exact Rep.mono h.U h.imm x u hr
 |ptr b o=>obtain⟨blk,h1,h2⟩:=hr;exact⟨blk,by rw[hk (b,0) (by simp[PV.keys])];exact h1,h2⟩
 |mp b=>obtain⟨blk,h1,h2⟩:=hr;exact⟨blk,by rw[hk (b,0) (by simp[PV.keys])];exact h1,h2⟩
theorem RepPs.persist{G G':Gh}{w w':World}(h:Ext G w G' w'):∀ {l:List PV} {us:List Value},(∀κ∈l.flatMap PV.keys,G'.ow κ=G.ow κ)->RepPs G w l us->RepPs G' w' l us
 |[],_,_,hr=>hr
 |p::l,us,hk,hr=>by
  obtain⟨u,us',h1,h2,h3⟩:=hr;refine⟨u,us',h1,h2.persist h (λκ hκ=>hk κ (by simp[hκ])),RepPs.persist h (λκ hκ=>hk κ ?_) h3⟩;simp only[Zi,Ze];exact .inr hκ
theorem CapZ.persist{G G':Gh}{w w':World}(h:Ext G w G' w'){a:Option Addr}(hz:CapZ G w a):CapZ G' w' a:=by
 rcases hz with h1|⟨ad,e,h1,h2,h3⟩
 ·exact .inl h1
 ·exact .inr ⟨ad,e,h1,Zq h2 (h.U _),h.imm.typ _ _ h2 h3⟩
theorem RepOwn.persist{G G':Gh}{w w':World}(h:Ext G w G' w'){k:Key}{g sz:Nat}{l:List AV}{u:Value}(hr:RepOwn G w k g sz l u):RepOwn G' w' k g sz l u:=by
 obtain⟨h0,hg,a,cap,es,h1,h2,h3,h4,hn,hsp,h5,h6⟩:=hr;refine⟨h0,Zq hg (h.gen k),a,cap,es,h1,RepL.mono h.U h.imm _ _ h2,h3,h4,hn,hsp,h5.mono h.U h.imm,λhgen=>?_⟩
 have hge:=h.gen k
 have heq:G'.gen k=G.gen k:=by omega
 rcases h6 kv with h6|⟨b,off,arr,e,h7,h8,h9,h10,h11,h12⟩
 ·exact .inl ⟨h6.1,h6.2.persist h⟩
 ·obtain⟨k1,k2⟩:=h.tok k h0 heq;obtain⟨k3,k4⟩:=k2 b h8;exact .inr ⟨b,off,arr,e,h7,by rw[k1];exact h8,by rw[k3];exact h9,h10,by rw[k4];exact h11,h12⟩
theorem RepC.persist{G G':Gh}{w w':World}(h:Ext G w G' w'){x:CV}{u:Value}(hr:RepC G w x u):RepC G' w' x u:=by
 cases x with
 |av x=>exact Rep.mono h.U h.imm x u hr
 |nil=>exact hr
 |own k g sz l=>exact RepOwn.persist h hr
theorem RepCs.persist{G G':Gh}{w w':World}(h:Ext G w G' w'):∀ {l:List CV} {us:List Value},RepCs G w l us->RepCs G' w' l us
 |[],_,hr=>hr
 |x::l,us,hr=>by obtain⟨u,us',h1,h2,h3⟩:=hr;exact⟨u,us',h1,h2.persist h,RepCs.persist h h3⟩
theorem RepX.persist{G G':Gh}{w w':World}(h:Ext G w G' w'){x:XV}{u:Value}(hr:RepX G w x u):RepX G' w' x u:=by
 cases x with
 |c x=>exact RepC.persist h hr
 |a l=>obtain⟨us,h1,h2,h3⟩:=hr;exact⟨us,h1,h2.persist h,h3⟩
theorem RepXs.persist{G G':Gh}{w w':World}(h:Ext G w G' w'):∀ {l:List XV} {us:List Value},RepXs G w l us->RepXs G' w' l us
 |[],_,hr=>hr
 |x::l,us,hr=>by obtain⟨u,us',h1,h2,h3⟩:=hr;exact⟨u,us',h1,h2.persist h,RepXs.persist h h3⟩
theorem RepS.persist{G G':Gh}{w w':World}(h:Ext G w G' w'){s:SV}{u:Value}(ho:∀ κ∈s.keys,G'.ow κ=G.ow κ)(hr:RepS G w s u):RepS G' w' s u:=by
 cases s with
 |junk=>trivial
 |nil=>exact hr
 |av x=>exact Rep.mono h.U h.imm x u hr
 |ptr b o=>obtain⟨blk,h1,h2⟩:=hr;exact⟨blk,by rw[ho (b,0) (by simp[SV.keys])];exact h1,h2⟩
 |mp b=>obtain⟨blk,h1,h2⟩:=hr;exact⟨blk,by rw[ho (b,0) (by simp[SV.keys])];exact h1,h2⟩
 |own k g sz l=>exact RepOwn.persist h hr
 |ag l=>obtain⟨us,h1,h2,h3⟩:=hr;exact⟨us,h1,h2.persist h,h3⟩
 |tp l=>obtain⟨us,h1,h2⟩:=hr;exact⟨us,h1,h2.persist h⟩
 |clo l=>exact⟨hr.1,Rep.mono h.U h.imm _ u hr.2⟩
 |vs b n=>
  rcases hr with⟨h1,h2,h3⟩|⟨blk,h0,h1,h2,h3⟩
  ·exact .inl ⟨h1,h2,by rw[ho (b,0) (by simp[SV.keys])];exact h3⟩
  ·exact .inr ⟨blk,Zy h0 h.size,by rw[ho (b,0) (by simp[SV.keys])];exact h1,by rw[h.cp blk h0];exact h2,by rw[h.cp blk h0];exact h3⟩
 |vp b sz i o=>obtain⟨blk,h1,h2⟩:=hr;exact⟨blk,by rw[ho (b,0) (by simp[SV.keys])];exact h1,h2⟩
 |vw b sz o n=>
  obtain⟨a,cap,h1,h2,h3⟩:=hr;exact⟨a,cap,h1,h2,h3.imp id (λ⟨blk,h4,h5⟩=>⟨blk,by rw[ho (b,0) (by simp[SV.keys])];exact h4,h5⟩)⟩
 |son b=>
  rcases hr with h1|⟨blk,h1,h2⟩
  ·exact .inl h1
  ·exact .inr ⟨blk,by rw[ho (b,0) (by simp[SV.keys])];exact h1,h2⟩
 |fn f fs cs=>
  obtain⟨vs,us,h1,h2,h3⟩:=hr;refine⟨vs,us,h1,h2.persist h (λκ hκ=>ho κ ?_),h3.persist h (λκ hκ=>ho κ ?_)⟩
  ·simp only[SV.keys,Ze];exact .inl hκ
  ·simp only[SV.keys,Ze];exact .inr hκ
theorem RepSs.map{G G':Gh}{w w':World}{φ:SV->SV}(hφ:∀ s u,RepS G w s u->RepS G' w' (φ s) u):∀ {l:List SV} {us:List Value},RepSs G w l us->RepSs G' w' (l.map φ) us
 |[],_,hr=>hr
 |p::l,us,hr=>by
  obtain⟨u,us',h1,h2,h3⟩:=hr;exact⟨u,us',h1,hφ _ _ h2,RepSs.map hφ h3⟩
theorem RepSs.length{G:Gh}{w:World}:∀ {l:List SV} {us:List Value},RepSs G w l us->us.length=l.length
 |[],_,h=>by simp only[RepSs]at h;simp[h]
 |x::l,us,h=>by
  obtain⟨u,us',rfl,_,h3⟩:=h;simp[RepSs.length h3]
theorem RepSs.get{G:Gh}{w:World}:∀ {l:List SV} {us:List Value},RepSs G w l us->∀(i:Nat) x,l[i]? =some x->∃ u,us[i]? =some u/\RepS G w x u
 |[],_,_,i,x,hx=>by simp at hx
 |y::l,us,h,i,x,hx=>by
  obtain⟨u,us',rfl,h2,h3⟩:=h;cases i with
  |zero=>simp at hx;subst hx;exact⟨u,rfl,h2⟩
  |succ i=>simp at hx;obtain⟨v,hv,hr⟩:=RepSs.get h3 i x hx;exact⟨v,by simpa using hv,hr⟩
theorem RepSs.append{G:Gh}{w:World}:∀ {l l':List SV} {us us':List Value},RepSs G w l us->RepSs G w l' us'->RepSs G w (l++l') (us++us')
 |[],_,_,_,h,h'=>by simp only[RepSs]at h;subst h;simpa using h'
 |x::l,l',us,us',h,h'=>by
  obtain⟨u,us1,rfl,h2,h3⟩:=h;exact⟨u,us1++us',rfl,h2,RepSs.append h3 h'⟩
theorem RepSs.take{G:Gh}{w:World}:∀ {l:List SV} {us:List Value} (n:Nat),RepSs G w l us->RepSs G w (l.take n) (us.take n)
 |[],us,n,h=>by simp only[RepSs]at h;subst h;simp[RepSs]
 |x::l,us,0,h=>by simp[RepSs]
 |x::l,us,n+1,h=>by
  obtain⟨u,us1,rfl,h2,h3⟩:=h;exact⟨u,us1.take n,rfl,h2,RepSs.take n h3⟩
theorem RepSs.drop{G:Gh}{w:World}:∀ {l:List SV} {us:List Value} (n:Nat),RepSs G w l us->RepSs G w (l.drop n) (us.drop n)
 |[],us,n,h=>by simp only[RepSs]at h;subst h;simp[RepSs]
 |x::l,us,0,h=>by simpa using h
 |x::l,us,n+1,h=>by
  obtain⟨u,us1,rfl,h2,h3⟩:=h;simpa using RepSs.drop n h3
def SV.toAV:SV->Option AV
 | .nil=>some (.sl [])
 | .av x=>some x
 | .own _ _ _ l=>some (.sl l)
 | .ag l=>some (.agg (l.map CV.toAV))
 | .clo l=>some (.sl l)
 |_=>none
theorem Vf2(U:Nat->Nat)(w:World):Rep U w (.sl []) (.slice none 0 0):=by
 simp only[Rep];exact⟨none,0,[],0,rfl,by simp[RepL],by simp,by simp,Nat.le_refl _,by simp,.inl (by simp[Va1])⟩
theorem RepS.own_sl{G:Gh}{w:World}{k:Key}{g sz:Nat}{l:List AV}{u:Value}(h:RepS G w (.own k g sz l) u):Rep G.U w (.sl l) u:=by
 obtain⟨_,_,a,cap,es,h1,h2,h3,h4,hn,hsp,h5,h6⟩:=h;simp only[Rep];exact⟨a,cap,es,sz,h1,h2,h3,hn,h4,λ_=>hsp,h5⟩
theorem RepC.toAV{G:Gh}{w:World}{x:CV}{u:Value}(h:RepC G w x u):Rep G.U w x.toAV u:=by
 cases x with
 |av x=>exact h
 |nil=>simp only[RepC]at h;subst h;exact Vf2 _ _
 |own k g sz l=>exact RepS.own_sl (show RepS G w (.own k g sz l) u from h)
theorem RepCs.toAV{G:Gh}{w:World}:∀ {l:List CV} {us:List Value},RepCs G w l us->RepL G.U w (l.map CV.toAV) us
 |[],_,h=>by simp only[List.map_nil,RepL];exact h
 |x::l,us,h=>by obtain⟨u,us',h1,h2,h3⟩:=h;simp only[Zu,RepL];exact⟨u,us',h1,h2.toAV,RepCs.toAV h3⟩
theorem RepX.toAV{G:Gh}{w:World}{x:XV}{u:Value}(h:RepX G w x u):Rep G.U w x.toAV u:=by
 cases x with
 |c x=>exact RepC.toAV h
 |a l=>obtain⟨us,h1,h2,h3⟩:=h;simp only[XV.toAV,Rep];exact⟨us,h1,h2.toAV,h3⟩
theorem RepXs.toAV{G:Gh}{w:World}:∀ {l:List XV} {us:List Value},RepXs G w l us->RepL G.U w (l.map XV.toAV) us
 |[],_,h=>by simp only[List.map_nil,RepL];exact h
 |x::l,us,h=>by obtain⟨u,us',h1,h2,h3⟩:=h;simp only[Zu,RepL];exact⟨u,us',h1,h2.toAV,RepXs.toAV h3⟩
theorem RepS.toAV{G:Gh}{w:World}{s:SV}{u:Value}{x:AV}(h:RepS G w s u)(hx:s.toAV=some x):Rep G.U w x u:=by
 cases s with
 |nil=>simp[SV.toAV]at hx;subst hx;simp only[RepS]at h;subst h;exact Vf2 _ _
 |av y=>simp[SV.toAV]at hx;subst hx;exact h
 |own k g sz l=>simp[SV.toAV]at hx;subst hx;exact h.own_sl
 |ag l=>simp only[SV.toAV,Za]at hx;subst hx;obtain⟨us,h1,h2,h3⟩:=h;simp only[Rep];exact⟨us,h1,h2.toAV,h3⟩
 |clo l=>simp only[SV.toAV,Za]at hx;subst hx;exact h.2
 |_=>simp[SV.toAV]at hx
structure Wf (G:Gh) (w:World):Prop where
 inj:∀ κ κ' b,G.ow κ=some b->G.ow κ'=some b->κ=κ'
 lt:∀ κ b,G.ow κ=some b->b<w.heap.size
 zero:∀ b,w.heap.size<=b->G.U b=0
structure Step (G:Gh) (w:World) (G':Gh) (w':World):Prop extends Ext G w G' w' where
 stay:∀ b,b<w.heap.size->(∀κ,G.ow κ≠some b)->w'.heap[b]? =w.heap[b]? /\G'.U b=G.U b
 rng:∀ κ b,G'.ow κ=some b->(∃κ',G.ow κ'=some b)\/w.heap.size<=b
theorem Imm.trans{U U':Nat->Nat}{a b c:World}(h:Imm U a b)(hU:∀ i,U i<=U' i)(h':Imm U' b c):Imm U a c:=
 ⟨λk o ho=>(h'.cell k o (Zy ho (hU k))).trans (h.cell k o ho),λk es cl hk hh=>h'.map k es cl (Zq hk (hU k)) (h.map k es cl hk hh),λk e hk hh=>h'.typ k e (Zq hk (hU k)) (h.typ k e hk hh),λk o n hk hn hh=>h'.frz k o n (Zq hk (hU k)) hn (h.frz k o n hk hn hh),λk e hk he hh=>h'.pln k e (Zq hk (hU k)) he (h.pln k e hk he hh)⟩
theorem Imm.refl(U:Nat->Nat)(w:World):Imm U w w:=⟨λ_ _ _=>rfl,λ_ _ _ _ h=>h,λ_ _ _ h=>h,λ_ _ _ _ _ h=>h,λ_ _ _ _ h=>h⟩
theorem Keep.trans{G G' G'':Gh}{w w' w'':World}{κ:Key}(h:Keep G w G' w' κ)(k:Keep G' w' G'' w'' κ):Keep G w G'' w'' κ:=
 ⟨k.1.trans h.1,λb hb=>⟨(k.2 b (by rw[h.1];exact hb)).1.trans (h.2 b hb).1,(k.2 b (by rw[h.1];exact hb)).2.trans (h.2 b hb).2⟩⟩
theorem Ext.refl(G:Gh)(w:World):Ext G w G w:=⟨λ_=>Nat.le_refl _,Imm.refl _ _,Nat.le_refl _,rfl,rfl,rfl,λ_ _=>rfl,λ_=>Nat.le_refl _,λ_ _ _=>⟨rfl,λ_ _=>⟨rfl,rfl⟩⟩⟩
theorem Ext.trans{G G' G'':Gh}{w w' w'':World}(h:Ext G w G' w')(k:Ext G' w' G'' w''):Ext G w G'' w'':=
 ⟨λb=>Zq (h.U b) (k.U b),h.imm.trans h.U k.imm,Zq h.size k.size,k.os.trans h.os,k.tape.trans h.tape,k.output.trans h.output,λb hb=>(k.cp b (Zy hb h.size)).trans (h.cp b hb),λκ=>Zq (h.gen κ) (k.gen κ),
  λκ h0 he=>by
   have h1:=h.gen κ;have h2:=k.gen κ
   exact(h.tok κ h0 kv).trans (k.tok κ h0 kv)⟩
theorem Step.refl(G:Gh)(w:World):Step G w G w:=⟨Ext.refl G w,λ_ _ _=>⟨rfl,rfl⟩,λκ _ h=>.inl ⟨κ,h⟩⟩
theorem Step.trans{G G' G'':Gh}{w w' w'':World}(h:Step G w G' w')(k:Step G' w' G'' w''):Step G w G'' w'':=by
 refine⟨h.toExt.trans k.toExt,λb hb hn=>?_,λκ b hb=>?_⟩
 ·obtain⟨h1,h2⟩:=h.stay b hb hn
  have hn':∀ κ,G'.ow κ≠some b:=by
   intro κ hκ;rcases h.rng κ b hκ with⟨κ',h'⟩|h'
   ·exact hn κ' h'
   ·omega
  obtain⟨k1,k2⟩:=k.stay b (Zy hb h.size) hn';exact⟨k1.trans h1,k2.trans h2⟩
 ·rcases k.rng κ b hb with⟨κ',h'⟩|h'
  ·exact h.rng κ' b h'
  ·exact .inr (Zq h.size h')
def ABox.svs:ABox->List SV
 | .cells _ l=>l
 | .map _ _=>[]
 | .vec _ _ _=>[]
 | .ge _=>[]
 | .it _ _=>[]
 | .vck _ _ _=>[]
 | .gl _ _=>[]
 | .mi _ l=>l
def RepB(G:Gh)(w:World)(id:Nat):ABox->Prop
 | .cells e l=>∃ blk arr,G.ow (id,0)=some blk/\w.heap[blk]? =some (.cells arr e (0,0))/\G.U blk=0/\RepSs G w l arr.toList/\∀ x∈arr.toList,x.oneCell'=true
 | .map ks vs=>∃ blk ents clock,G.ow (id,0)=some blk/\w.heap[blk]? =some (.map ents clock)/\G.U blk=0/\ents.toList.map (·.key)=ks.map .string/\RepL G.U w vs (ents.toList.map (·.val))/\∀ e∈ents.toList,e.born<clock
 | .ge n=>n<=w.heap.size
 | .mi ks l=>∃ blk ents clock,G.ow (id,0)=some blk/\w.heap[blk]? =some (.map ents clock)/\G.U blk=0/\ents.toList.map (·.key)=ks.map (.int .i64)/\RepSs G w l (ents.toList.map (·.val))/\∀ e∈ents.toList,e.born<clock
 | .gl b vs=>∃ e m,G.ow (id,0)=some b/\w.heap[b]? =some (.cells vs.toArray e m)
 | .it s pos=>∃ blk,blk<w.heap.size/\G.ow (id,0)=some blk/\w.heap[blk]? =some (.stringIter s pos)/\G.U blk=0
 | .vck e sz l=>(l=[]/\G.ow (id,0)=none)\/∃ blk arr es,blk<w.heap.size/\G.ow (id,0)=some blk/\w.heap[blk]? =some (.cells arr e (0,0))/\G.U blk=0/\G.cp blk*sz<=arr.size/\RepL G.U w l es/\(∀x∈es,x.cells.size=sz)/\(∃rest,arr.toList=Va1 es++rest)/\∀ c∈Va1 es,c.oneCell'=true
 | .vec e sz l=>(l=[]/\G.ow (id,0)=none)\/∃ blk arr es,blk<w.heap.size/\G.ow (id,0)=some blk/\w.heap[blk]? =some (.cells arr e (0,0))/\G.U blk=0/\G.cp blk*sz<=arr.size/\RepL G.U w l es/\(∀x∈es,x.cells.size=sz)/\(∃rest,arr.toList=Va1 es++rest)/\∀ c∈Va1 es,c.oneCell'=true
theorem RepSs.persistL{G G':Gh}{w w':World}(h:Ext G w G' w'):∀ {l:List SV} {us:List Value},(∀κ∈l.flatMap SV.keys,G'.ow κ=G.ow κ)->RepSs G w l us->RepSs G' w' l us
 |[],_,_,hr=>hr
 |s::l,us,ho,hr=>by
  obtain⟨u,us',e1,e2,e3⟩:=hr;exact⟨u,us',e1,e2.persist h (λκ hκ=>ho κ (by simp[hκ])),RepSs.persistL h (λκ hκ=>ho κ (by simp only[Zi,Ze];exact .inr hκ)) e3⟩
theorem RepB.persist{G G':Gh}{w w':World}(h:Ext G w G' w'){id:Nat}{x:ABox}(hk:Keep G w G' w' (id,0))(ho:∀ κ∈x.svs.flatMap SV.keys,G'.ow κ=G.ow κ)(hr:RepB G w id x):RepB G' w' id x:=by
 cases x with
 |cells e l=>
  obtain⟨blk,arr,h1,h2,h3,h4,h5⟩:=hr;obtain⟨k1,k2⟩:=hk;obtain⟨k3,k4⟩:=k2 blk h1;refine⟨blk,arr,by rw[k1];exact h1,by rw[k3];exact h2,by rw[k4];exact h3,?_,h5⟩;exact RepSs.persistL h ho h4
 |mi ks l=>
  obtain⟨blk,ents,clock,h1,h2,h3,h4,h5,h6⟩:=hr;obtain⟨k1,k2⟩:=hk;obtain⟨k3,k4⟩:=k2 blk h1;exact⟨blk,ents,clock,by rw[k1];exact h1,by rw[k3];exact h2,by rw[k4];exact h3,h4,RepSs.persistL h ho h5,h6⟩
 |map ks vs=>
  obtain⟨blk,ents,clock,h1,h2,h3,h4,h5,h6⟩:=hr;obtain⟨k1,k2⟩:=hk;obtain⟨k3,k4⟩:=k2 blk h1;exact⟨blk,ents,clock,by rw[k1];exact h1,by rw[k3];exact h2,by rw[k4];exact h3,h4,RepL.mono h.U h.imm _ _ h5,h6⟩
 |ge n=>exact Zq hr h.size
 |gl b vs=>
  obtain⟨e,m,h1,h2⟩:=hr;obtain⟨k1,k2⟩:=hk;exact⟨e,m,by rw[k1];exact h1,by rw[(k2 b h1).1];exact h2⟩
 |it s pos=>
  obtain⟨blk,h0,h1,h2,h3⟩:=hr;obtain⟨k1,k2⟩:=hk;obtain⟨k3,k4⟩:=k2 blk h1;exact⟨blk,Zy h0 h.size,by rw[k1];exact h1,by rw[k3];exact h2,by rw[k4];exact h3⟩
 |vec e sz l=>
  obtain⟨k1,k2⟩:=hk;rcases hr with⟨h1,h2⟩|⟨blk,arr,es,h0,h1,h2,h3,h4,h5,h6,h7⟩
  ·exact .inl ⟨h1,by rw[k1];exact h2⟩
  ·obtain⟨k3,k4⟩:=k2 blk h1;exact .inr ⟨blk,arr,es,Zy h0 h.size,by rw[k1];exact h1,by rw[k3];exact h2,by rw[k4];exact h3,by rw[h.cp blk h0];exact h4,RepL.mono h.U h.imm _ _ h5,h6,h7⟩
 |vck e sz l=>
  obtain⟨k1,k2⟩:=hk;rcases hr with⟨h1,h2⟩|⟨blk,arr,es,h0,h1,h2,h3,h4,h5,h6,h7⟩
  ·exact .inl ⟨h1,by rw[k1];exact h2⟩
  ·obtain⟨k3,k4⟩:=k2 blk h1;exact .inr ⟨blk,arr,es,Zy h0 h.size,by rw[k1];exact h1,by rw[k3];exact h2,by rw[k4];exact h3,by rw[h.cp blk h0];exact h4,RepL.mono h.U h.imm _ _ h5,h6,h7⟩
def St.gen(S:St)(k:Key):Nat:=(S.gn.lookup k).getD 0
structure Rel (G:Gh) (w:World) (S:St) (a:Act):Prop where
 wf:Wf G w
 size:S.fr.length=a.tmps.size
 fr:∀(t:Nat) s,S.fr[t]? =some s->RepS G w s (a.tmps.getD t undef)
 bx:∀ p∈S.bx,RepB G w p.1 p.2
 gn:∀ k:Key,G.gen k=S.gen k
 defers:a.defers=G.df
theorem Rel.keep{G G':Gh}{w w':World}{S:St}{a:Act}(h:Rel G w S a)(he:Ext G w G' w')(hw:Wf G' w')(hk:∀ κ:Key,κ.2=0->Keep G w G' w' κ)(hg:G'.gen=G.gen):Rel G' w' S a:=by
 have hkeys:∀(s:SV) κ,κ∈s.keys->κ.2=0:=by
  intro s κ hκ;cases s <;>simp only[SV.keys,Z2,List.not_mem_nil,or_false,Ze,Zt]at hκ
  ·rw[hκ]
  ·rw[hκ]
  ·rcases hκ with⟨p,_,hp⟩|⟨p,_,hp⟩ <;>(cases p <;>simp[PV.keys]at hp <;>rw[hp])
  ·rw[hκ]
  ·rw[hκ]
  ·rw[hκ]
  ·rw[hκ]
 exact⟨hw,h.size,λt s ht=>(h.fr t s ht).persist he (λκ hκ=>(hk κ (hkeys s κ hκ)).1),
  λp hp=>(h.bx p hp).persist he (hk _ rfl) (λκ hκ=>by
   simp only[Zt]at hκ;obtain⟨s,_,hs⟩:=hκ
   exact(hk κ (hkeys s κ hs)).1),λk=>by rw[hg];exact h.gn k,h.defers.trans he.df.symm⟩
theorem SV.keys_zero(s:SV):∀ κ,κ∈s.keys->κ.2=0:=by
 intro κ hκ;cases s <;>simp only[SV.keys,Z2,List.not_mem_nil,or_false,Ze,Zt]at hκ
 ·rw[hκ]
 ·rw[hκ]
 ·rcases hκ with⟨p,_,hp⟩|⟨p,_,hp⟩ <;>(cases p <;>simp[PV.keys]at hp <;>rw[hp])
 ·rw[hκ]
 ·rw[hκ]
 ·rw[hκ]
 ·rw[hκ]
def eqs(s t:ByteArray):Bool:=s.data.toList==t.data.toList
theorem Vm9(s t:ByteArray):(s.toList==t.toList)=eqs s t:=by simp only[eqs,Lib.toList_data]
def Vas:SV:=.av (.tup [])
def Vdi:Value->AV
 | .slice none 0 0=>.sl []
 |v=>.val v
def Vny:Value->CV
 | .slice none 0 0=>.nil
 |v=>.av (.val v)
def isNilV:Value->Bool
 | .slice none 0 0=>true
 |_=>false
def Vfr:Value->SV
 | .slice none 0 0=>.nil
 | .agg cs=>if cs.toList.all (λc=>c.oneCell')then(if cs.toList.any isNilV then .ag (cs.toList.map Vny)else .av (.agg (cs.toList.map Vdi)))else .junk
 | .tuple _=>.junk
 |v=>.av (.val v)
def PV.toSV:PV->SV
 | .av x=>.av x
 | .ptr b o=>.ptr b o
 | .mp b=>.mp b
def SV.toPV:SV->Option PV
 | .nil=>some (.av (.sl []))
 | .av x=>some (.av x)
 | .own _ _ _ l=>some (.av (.sl l))
 | .ag l=>some (.av (.agg (l.map CV.toAV)))
 | .clo l=>some (.av (.sl l))
 | .ptr b o=>some (.ptr b o)
 | .mp b=>some (.mp b)
 |_=>none
def SV.norm:SV->SV
 | .nil=>.av (.sl [])
 | .own _ _ _ l=>.av (.sl l)
 | .ag l=>.av (.agg (l.map CV.toAV))
 | .tp l=>.av (.tup (l.map XV.toAV))
 | .clo l=>.av (.sl l)
 |s=>s
def St.ev(S:St):Operand->SV
 | .tmp t=>S.fr.getD t .junk
 | .const v=>Vfr v
 | .global _=>.junk
 | .func f=>.fn f [] []
def St.put(S:St)(d:Option Tmp)(v:SV):St:=
 match d with
 |some d=>{S with fr:=S.fr.set d v}
 |none=>S
theorem Vlc{U:Nat->Nat}{w:World}(v:Value)(h:v.oneCell'=true):Rep U w (Vdi v) v:=by
 unfold Vdi
 split
 ·exact Vf2 U w
 ·simp only[Rep];exact⟨trivial,h⟩
theorem Ved{U:Nat->Nat}{w:World}:∀(l:List Value),(∀c∈l,c.oneCell'=true)->RepL U w (l.map Vdi) l
 |[],_=>by simp[RepL]
 |c::l,h=>by
  simp only[Zu,RepL];exact⟨c,l,rfl,Vlc c (h c ku),Ved l (λx hx=>h x (by simp[hx]))⟩
theorem RepC_const(G:Gh)(w:World)(v:Value)(h:v.oneCell'=true):RepC G w (Vny v) v:=by
 unfold Vny
 split
 ·rfl
 ·simp only[RepC,Rep];exact⟨trivial,h⟩
theorem Vlg(G:Gh)(w:World):∀(l:List Value),(∀c∈l,c.oneCell'=true)->RepCs G w (l.map Vny) l
 |[],_=>rfl
 |c::l,h=>⟨c,l,rfl,RepC_const G w c (h c ku),Vlg G w l (λx hx=>h x (by simp[hx]))⟩
theorem Vmr(G:Gh)(w:World)(v:Value):RepS G w (Vfr v) v:=by
 unfold Vfr
 split
 ·rfl
 ·split
  ·rename_i cs h
   have h':∀ c∈cs.toList,c.oneCell'=true:=λc hc=>Z0.1 h c hc
   split
   ·exact⟨cs,rfl,Vlg G w _ h',h'⟩
   ·simp only[RepS,Rep];exact⟨cs,rfl,Ved _ h',h'⟩
  ·trivial
 ·trivial
 ·rename_i v' h1 h2 h3;simp only[RepS,Rep];refine⟨trivial,?_⟩;cases v <;>simp_all[Value.oneCell']
theorem Rel.ev{G:Gh}{w:World}{S:St}{a:Act}(h:Rel G w S a)(x:Operand):RepS G w (S.ev x) (a.eval x):=by
 cases x with
 |tmp t=>
  simp only[St.ev,Act.eval,List.getD_eq_getElem?_getD];cases ht:S.fr[t]? with
  |none=>trivial
  |some s=>exact h.fr t s ht
 |const v=>exact Vmr G w v
 |global g=>trivial
 |func f=>exact⟨#[],#[],rfl,rfl,rfl⟩
theorem RepS.norm{G:Gh}{w:World}{s:SV}{u:Value}(h:RepS G w s u):RepS G w s.norm u:=by
 cases s with
 |nil=>simp only[RepS]at h;subst h;exact Vf2 _ _
 |own k g sz l=>exact h.own_sl
 |ag l=>obtain⟨us,h1,h2,h3⟩:=h;simp only[SV.norm,RepS,Rep];exact⟨us,h1,h2.toAV,h3⟩
 |tp l=>obtain⟨us,h1,h2⟩:=h;simp only[SV.norm,RepS,Rep];exact⟨us,h1,h2.toAV⟩
 |clo l=>exact h.2
 |_=>exact h
theorem RepP.toSV{G:Gh}{w:World}{p:PV}{u:Value}(h:RepP G w p u):RepS G w p.toSV u:=by
 cases p <;>exact h
theorem RepS.toPV{G:Gh}{w:World}{s:SV}{u:Value}{p:PV}(h:RepS G w s u)(hp:s.toPV=some p):RepP G w p u:=by
 cases s with
 |nil=>simp[SV.toPV]at hp;subst hp;simp only[RepS]at h;subst h;exact Vf2 _ _
 |av x=>simp[SV.toPV]at hp;subst hp;exact h
 |own k g sz l=>simp[SV.toPV]at hp;subst hp;exact h.own_sl
 |ag l=>simp only[SV.toPV,Za]at hp;subst hp;obtain⟨us,h1,h2,h3⟩:=h;simp only[RepP,Rep];exact⟨us,h1,h2.toAV,h3⟩
 |clo l=>simp[SV.toPV]at hp;subst hp;exact h.2
 |ptr b o=>simp[SV.toPV]at hp;subst hp;exact h
 |mp b=>simp[SV.toPV]at hp;subst hp;exact h
 |_=>simp[SV.toPV]at hp
theorem Rel.put{G:Gh}{w:World}{S:St}{a:Act}(h:Rel G w S a)(d:Option Tmp){s:SV}{v:Value}(hs:RepS G w s v):Rel G w (S.put d s) (a.put d v):=by
 cases d with
 |none=>exact h
 | some d=>
  refine⟨h.wf,by simp[St.put,Act.put,h.size],λt s' ht=>?_,h.bx,h.gn,h.defers⟩;simp only[St.put,Act.put]at ht ⊢;rw[List.getElem?_set]at ht;simp only[Array.getD_eq_getD_getElem?,Array.getElem?_setIfInBounds]
  have hsz:=h.size
  by_cases hd:d=t
  ·subst hd;simp only[if_true]at ht ⊢
   split at ht
   ·simp at ht;subst ht;rw[if_pos kv];exact hs
   ·simp at ht
  ·rw[if_neg hd]at ht ⊢
   have:=h.fr t s' ht;simpa[Array.getD_eq_getD_getElem?]using this
structure Res where
 ok:Prop
 v:SV
 st:St
def Sound(P:Program)(o:Oper)(S:St)(r:Res):Prop:=
 r.ok->∀(G:Gh)(w:World)(a:Act),Rel G w S a->
  ∃(nx:Next)(v:Value)(w':World)(G':Gh),(execOp a.eval o).run P w=.ok nx w'/\(nx=.value v\/(nx=.skip/\v=undef))/\
   Step G w G' w'/\Rel G' w' r.st a/\RepS G' w' r.v v/\∀ i,Fx i->G'.ow (i,0)=G.ow (i,0)
theorem Sound.still{P:Program}{o:Oper}{S:St}{s:SV}{p:Prop}
  (h:p->∀(G:Gh)(w:World)(a:Act),Rel G w S a->∃ v,(execOp a.eval o).run P w=.ok (.value v) w/\RepS G w s v):Sound P o S ⟨p,s,S⟩:=by
 intro hp G w a hr;obtain⟨v,h1,h2⟩:=h hp G w a hr;exact⟨_,v,w,G,h1,.inl rfl,Step.refl G w,hr,h2,λ_ _=>rfl⟩
def bAnd(k:IntKind)(x y:Int):Int:=k.wrap ((BitVec.ofInt k.bits x &&& BitVec.ofInt k.bits y).toNat:Int)
def bOr(k:IntKind)(x y:Int):Int:=k.wrap ((BitVec.ofInt k.bits x ||| BitVec.ofInt k.bits y).toNat:Int)
def bShl(k:IntKind)(x y:Int):Int:=k.wrap (x*2 ^ (min y.toNat k.bits))
def aBin(op:BinOp)(a b:Value):Option (Prop×Value):=
 match op,a,b with
 | .add,.int k x,.int k' y=>if k=k' then some (True,.int k (k.wrap (x+y)))else none
 | .sub,.int k x,.int k' y=>if k=k' then some (True,.int k (k.wrap (x-y)))else none
 | .mul,.int k x,.int k' y=>if k=k' then some (True,.int k (k.wrap (x*y)))else none
 | .quo,.int k x,.int k' y=>if k=k' then some (y≠0,.int k (k.wrap (x.tdiv y)))else none
 | .rem,.int k x,.int k' y=>if k=k' then some (y≠0,.int k (x.tmod y))else none
 | .and,.int k x,.int k' y=>if k=k' then some (True,.int k (k.wrap ((BitVec.ofInt k.bits x &&& BitVec.ofInt k.bits y).toNat:Int)))else none
 | .or,.int k x,.int k' y=>if k=k' then some (True,.int k (k.wrap ((BitVec.ofInt k.bits x ||| BitVec.ofInt k.bits y).toNat:Int)))else none
 | .shr,.int k x,.int _ y=>some (0<=y,.int k (x.fdiv (2 ^ (min y.toNat k.bits))))
 | .shl,.int k x,.int _ y=>some (0<=y,.int k (k.wrap (x*2 ^ (min y.toNat k.bits))))
 | .eql,.int k x,.int k' y=>if k=k' then some (True,.bool (x==y))else none
 | .neq,.int k x,.int k' y=>if k=k' then some (True,.bool (x !=y))else none
 | .lss,.int k x,.int k' y=>if k=k' then some (True,.bool (decide (x<y)))else none
 | .leq,.int k x,.int k' y=>if k=k' then some (True,.bool (decide (x<=y)))else none
 | .gtr,.int k x,.int k' y=>if k=k' then some (True,.bool (decide (x>y)))else none
 | .geq,.int k x,.int k' y=>if k=k' then some (True,.bool (decide (x>=y)))else none
 | .eql,.string x,.string y=>some (True,.bool (eqs x y))
 | .neq,.string x,.string y=>some (True,.bool (!eqs x y))
 | .add,.string x,.string y=>some (((x.size+y.size:Nat):Int)<=IntKind.i64.max,.string (x++y))
 |_,_,_=>none
theorem aBin_sound{P:Program}{op:BinOp}{a b:Value}{p:Prop}{v:Value}(h:aBin op a b=some (p,v))(hp:p)(t:TypeId)(w:World)(x y:Operand):
    (do eqGuard op t x y a b;binOp op t a b:Sem Value).run P w=.ok v w/\v.oneCell'=true:=by
  unfold aBin at h
  split at h
  all_goals first
    | (simp only[Za,Zd]at h;obtain⟨rfl,rfl⟩:=h
       refine⟨?_,rfl⟩
       simp[eqGuard,binOp,Op.shift,Int.not_lt.2 hp,go_sem];done)
    | (simp only[Option.ite_none_right_eq_some,Za,Zd]at h;obtain⟨rfl, -,rfl⟩:=h
       refine⟨?_,rfl⟩
       simp[eqGuard,binOp,Op.intArith,Op.intCmp,Op.intBits,go_sem];done)
    | (simp only[Option.ite_none_right_eq_some,Za,Zd]at h;obtain⟨rfl,rfl,rfl⟩:=h
       refine⟨?_,rfl⟩
       simp[eqGuard,binOp,Op.intDiv,go_sem,hp];done)
    | (simp only[Za,Zd]at h;obtain⟨rfl,rfl⟩:=h
       refine⟨?_,rfl⟩
       try simp only[<-Vm9]
       simp[eqGuard,binOp,go_sem]
       first|rfl|(simp[IntKind.max,IntKind.signed,IntKind.bits]at hp;omega))
    |simp at h
def Gh.setU(G:Gh)(b n:Nat):Gh:={G with U:=λi=>if i=b then n else G.U i}
def Gh.bind(G:Gh)(id blk:Nat):Gh:={G with ow:=λκ=>if κ=(id,0)then some blk else G.ow κ}
theorem Vbe(w:World)(o:Obj){b:Nat}(h:b<w.heap.size):(w.alloc o).heap[b]? =w.heap[b]? :=by
 show(w.heap.push o)[b]? =_;rw[Array.getElem?_push,if_neg kv]
theorem Vat(w:World)(o:Obj):(w.alloc o).heap[w.heap.size]? =some o:=by
 show(w.heap.push o)[w.heap.size]? =_;simp
theorem cell_of_heap{w w':World}{b:Nat}(h:w'.heap[b]? =w.heap[b]?)(o:Nat):w'.cell? ⟨b,o,none⟩=w.cell? ⟨b,o,none⟩:=by
 simp only[World.cell?,h]
theorem Vkn{U:Nat->Nat}{w w':World}(h:∀ b,1<=U b->w'.heap[b]? =w.heap[b]?):Imm U w w':=
 ⟨λb o ho=>cell_of_heap (h b kv) o,λb es cl hb hh=>by rw[h b hb];exact hh,λb e hb hh=>by obtain⟨arr,m,q⟩:=hh;exact⟨arr,m,by rw[h b hb];exact q⟩,λb o n hb _ hh=>by obtain⟨arr,e,lo,hi,q⟩:=hh;exact⟨arr,e,lo,hi,by rw[h b hb];exact q⟩,λb e hb _ hh=>by obtain⟨arr,q⟩:=hh;exact⟨arr,by rw[h b hb];exact q⟩⟩
theorem Vpo{G:Gh}{w:World}(hw:Wf G w)(o:Obj):Imm G.U w (w.alloc o):=by
 refine Vkn λb hb=>?_
 rcases Zr b w.heap.size with h|h
 ·exact Vbe w o h
 ·rw[hw.zero b h]at hb;omega
theorem Ve5{G:Gh}{w:World}(hw:Wf G w)(o:Obj)(n:Nat):
  Step G w (G.setU w.heap.size n) (w.alloc o)/\Wf (G.setU w.heap.size n) (w.alloc o)/\∀ κ,Keep G w (G.setU w.heap.size n) (w.alloc o) κ:=by
 have hk:∀ κ,Keep G w (G.setU w.heap.size n) (w.alloc o) κ:=λκ=>⟨rfl,λb hb=>by
  have:=hw.lt κ b hb
  exact⟨Vbe w o this,by simp only[Gh.setU];rw[if_neg kv]⟩⟩
 refine⟨⟨⟨λb=>?_,Vpo hw o,by simp,rfl,rfl,rfl,λ_ _=>rfl,λ_=>Nat.le_refl _,λκ _ _=>hk κ⟩,λb hb _=>⟨Vbe w o hb,?_⟩,λκ b h=>.inl ⟨κ,h⟩⟩,⟨hw.inj,λκ b h=>?_,λb hb=>?_⟩,hk⟩
 ·simp only[Gh.setU];split
  ·rename_i h;rw[hw.zero b kv];omega
  ·omega
 ·simp only[Gh.setU];rw[if_neg kv]
 ·have:=hw.lt κ b h;simp;omega
 ·simp at hb;simp only[Gh.setU];rw[if_neg kv];exact hw.zero b kv
def PV.names(id:Nat):PV->Bool
 | .av _=>false
 | .ptr b _=>b==id
 | .mp b=>b==id
def SV.names(id:Nat):SV->Bool
 | .ptr b _=>b==id
 | .mp b=>b==id
 | .fn _ fs cs=>fs.any (PV.names id)||cs.any (PV.names id)
 | .son b=>b==id
 | .vs b _=>b==id
 | .vw b _ _ _=>b==id
 | .vp b _ _ _=>b==id
 |_=>false
def St.names(S:St)(id:Nat):Bool:=S.fr.any (SV.names id)||S.bx.any (λp=>p.1==id||p.2.svs.any (SV.names id))
theorem Vm4{id:Nat}{l:List PV}(h:l.any (PV.names id)=false):∀ κ∈l.flatMap PV.keys,κ.1≠id:=by
 intro κ hκ;simp only[Zt]at hκ;obtain⟨p,hp,hk⟩:=hκ
 have h1:PV.names id p=false:=by
  rw[Zl]at h;simpa using h p hp
 cases p <;>simp_all[PV.keys,PV.names]
theorem Vby{id:Nat}{s:SV}(h:s.names id=false):∀ κ∈s.keys,κ.1≠id:=by
 intro κ hκ;cases s with
 |ptr b o=>simp_all[SV.keys,SV.names]
 |mp b=>simp_all[SV.keys,SV.names]
 |son b=>simp_all[SV.keys,SV.names]
 |vs b n=>simp_all[SV.keys,SV.names]
 |vw b sz o n=>simp_all[SV.keys,SV.names]
 |vp b sz i o=>simp_all[SV.keys,SV.names]
 |fn f fs cs=>
  simp only[SV.names,Yf]at h;simp only[SV.keys,Ze]at hκ;rcases hκ with hκ|hκ
  ·exact Vm4 h.1 κ hκ
  ·exact Vm4 h.2 κ hκ
 |_=>simp[SV.keys]at hκ
theorem Ve4{G:Gh}{w:World}(hw:Wf G w)(o:Obj)(id:Nat):
  Step G w (G.bind id w.heap.size) (w.alloc o)/\Wf (G.bind id w.heap.size) (w.alloc o)/\∀ κ,κ≠(id,0)->Keep G w (G.bind id w.heap.size) (w.alloc o) κ:=by
 have how:∀ κ b,(G.bind id w.heap.size).ow κ=some b->(κ=(id,0)/\b=w.heap.size)\/(κ≠(id,0)/\G.ow κ=some b):=by
  intro κ b h;simp only[Gh.bind]at h
  split at h
  ·rename_i hk;simp at h;exact .inl ⟨hk,h.symm⟩
  ·rename_i h1;exact .inr ⟨h1,h⟩
 have hkp:∀ κ,κ≠(id,0)->Keep G w (G.bind id w.heap.size) (w.alloc o) κ:=λκ hκ=>⟨by simp only[Gh.bind];rw[if_neg hκ],λb hb=>⟨Vbe w o (hw.lt κ b hb),rfl⟩⟩
 refine⟨⟨⟨λb=>Nat.le_refl _,Vpo hw o,by simp,rfl,rfl,rfl,λ_ _=>rfl,λ_=>Nat.le_refl _,λκ h0 _=>hkp κ (by intro e;rw[e]at h0;simp at h0)⟩,λb hb _=>⟨Vbe w o hb,rfl⟩,λκ b h=>?_⟩,⟨λκ κ' b h h'=>?_,λκ b h=>?_,λb hb=>?_⟩,hkp⟩
 ·rcases how κ b h with⟨_,rfl⟩|⟨_,h1⟩
  ·exact .inr (Nat.le_refl _)
  ·exact .inl ⟨κ,h1⟩
 ·rcases how κ b h with⟨h1,h2⟩|⟨h1,h2⟩ <;>rcases how κ' b h' with⟨h3,h4⟩|⟨h3,h4⟩
  ·rw[h1,h3]
  ·have:=hw.lt κ' b h4;omega
  ·have:=hw.lt κ b h2;omega
  ·exact hw.inj κ κ' b h2 h4
 ·rcases how κ b h with⟨_,rfl⟩|⟨_,h1⟩
  ·simp
  ·have:=hw.lt κ b h1;simp;omega
 ·simp at hb;exact hw.zero b kv
theorem Rel.bind{G:Gh}{w:World}{S:St}{a:Act}(h:Rel G w S a){id:Nat}(hn:S.names id=false)(o:Obj):Rel (G.bind id w.heap.size) (w.alloc o) S a:=by
 obtain⟨s1,s2,s3⟩:=Ve4 h.wf o id;simp only[St.names,Yf]at hn;obtain⟨n1,n2⟩:=hn
 have hne:∀ κ:Key,κ.1≠id->κ≠(id,0):=λκ hκ e=>hκ (by rw[e])
 refine⟨s2,h.size,λt s ht=>?_,λp hp=>?_,h.gn,h.defers⟩
 ·have:s.names id=false:=by rw[Zl]at n1;simpa using n1 s (Zs ht)
  exact(h.fr t s ht).persist s1.toExt (λκ hκ=>(s3 κ (hne κ (Vby this κ hκ))).1)
 ·have hp':p.1≠id/\p.2.svs.any (SV.names id)=false:=by rw[Zl]at n2;simpa using n2 p hp
  refine(h.bx p hp).persist s1.toExt (s3 _ (hne _ hp'.1)) (λκ hκ=>?_);simp only[Zt]at hκ;obtain⟨s,hs,hs2⟩:=hκ
  have:s.names id=false:=by have:=hp'.2;rw[Zl]at this;simpa using this s hs
  exact(s3 κ (hne κ (Vby this κ hs2))).1
def St.addBox(S:St)(id:Nat)(x:ABox):St:={S with bx:=(id,x)::S.bx}
theorem Vd1{G:Gh}{w:World}:∀ {l:List AV} {us:List Value},RepL G.U w l us->RepSs G w (l.map .av) us
 |[],_,h=>by simp only[RepL]at h;exact h
 |x::l,us,h=>by
  simp only[RepL]at h;obtain⟨u,us',h1,h2,h3⟩:=h;exact⟨u,us',h1,h2,Vd1 h3⟩
theorem Rel.newBox{G:Gh}{w:World}{S:St}{a:Act}(h:Rel G w S a){id:Nat}(hn:S.names id=false)(e:TypeId){l:List SV}{us:List Value}(hs:RepSs G w l us)(hl:∀ s∈l,s.names id=false)(h1:∀ x∈us,x.oneCell'=true):
  Step G w (G.bind id w.heap.size) (w.alloc (.cells us.toArray e))/\Rel (G.bind id w.heap.size) (w.alloc (.cells us.toArray e)) (S.addBox id (.cells e l)) a/\
   RepS (G.bind id w.heap.size) (w.alloc (.cells us.toArray e)) (.ptr id 0) (.pointer (some ⟨w.heap.size,0,none⟩)):=by
 obtain⟨s1,s2,s3⟩:=Ve4 h.wf (.cells us.toArray e) id
 have hr:=h.bind hn (.cells us.toArray e)
 have hne:∀ κ:Key,κ.1≠id->κ≠(id,0):=λκ hκ e=>hκ (by rw[e])
 refine⟨s1,⟨hr.wf,hr.size,hr.fr,λp hp=>?_,hr.gn,hr.defers⟩,⟨w.heap.size,by simp[Gh.bind],rfl⟩⟩;simp only[St.addBox,Z2]at hp;rcases hp with rfl|hp
 ·refine⟨w.heap.size,us.toArray,by simp[Gh.bind],Vat w _,h.wf.zero _ (Nat.le_refl _),?_,by simpa using h1⟩;suffices hh:∀(l:List SV)(vs:List Value),(∀s∈l,s.names id=false)->RepSs G w l vs->RepSs (G.bind id w.heap.size) (w.alloc (.cells us.toArray e)) l vs by exact hh l us hl hs
  intro l
  induction l with
  |nil=>intro vs _ h;exact h
  |cons s l ih=>
   intro vs hl h;obtain⟨u,vs',e1,e2,e3⟩:=h;exact⟨u,vs',e1,e2.persist s1.toExt (λκ hκ=>(s3 κ (hne κ (Vby (hl s ku) κ hκ))).1),ih vs' (λx hx=>hl x (by simp[hx])) e3⟩
 ·exact hr.bx p hp
def St.setBox(S:St)(id:Nat)(x:ABox):St:={S with bx:=S.bx.map (λp=>if p.1=id then(p.1,x)else p)}
theorem Vad{l:List (Nat×ABox)}{b:Nat}{x:ABox}(h:l.lookup b=some x):(b,x)∈l:=by
 induction l with
 |nil=>simp at h
 |cons p l ih=>
  obtain⟨k,y⟩:=p;simp only[List.lookup_cons]at h
  split at h
  ·rename_i hk;simp at hk h;subst hk h;simp
  ·simp[ih h]
theorem Vgg{G:Gh}{w:World}(hw:Wf G w){id:Nat}{blk:Nat}{arr:Array Value}{e:TypeId}{fr:Nat×Nat}(ho:G.ow (id,0)=some blk)(hh:w.heap[blk]? =some (.cells arr e fr))(hU:G.U blk=0)(arr':Array Value):
  Step G w G (w.setRow blk arr')/\Wf G (w.setRow blk arr')/\∀ κ',κ'≠(id,0)->Keep G w G (w.setRow blk arr') κ':=by
 have hoth:∀ k,k≠blk->(w.setRow blk arr').heap[k]? =w.heap[k]? :=λk hk=>setRow_other w blk k arr' hk
 have hkp:∀ κ',κ'≠(id,0)->Keep G w G (w.setRow blk arr') κ':=λκ' hk'=>⟨rfl,λb hb=>⟨hoth b (λhe=>by subst he;exact hk' (hw.inj κ' (id,0) b hb ho)),rfl⟩⟩
 refine⟨⟨⟨λb=>Nat.le_refl _,Vkn (λb hb=>hoth b (λhe=>by subst he;omega)),by simp,rfl,rfl,rfl,λ_ _=>rfl,λ_=>Nat.le_refl _,λκ h0 _=>hkp κ (by intro e;rw[e]at h0;simp at h0)⟩,λb hb hn=>⟨hoth b (λhe=>hn _ (he ▸ ho)),rfl⟩,λκ b h=>.inl ⟨κ,h⟩⟩,⟨hw.inj,λκ b h=>?_,λb hb=>?_⟩,hkp⟩
 ·simpa using hw.lt κ b h
 ·exact hw.zero b (by simpa using hb)
theorem Rel.storeBox{G:Gh}{w:World}{S:St}{a:Act}(h:Rel G w S a){b:Nat}{ty:TypeId}{l:List SV}(hb:S.bx.lookup b=some (.cells ty l)){blk:Nat}(ho:G.ow (b,0)=some blk)(o:Nat){xs:List SV}{vs:List Value}
  (hs:RepSs G w xs vs) (h1:∀ x∈vs,x.oneCell'=true) (hle:o+xs.length<=l.length):
  ∃w',(∀P:Program,(storeCells ⟨blk,o,none⟩ vs).run P w=.ok () w')/\Step G w G w'/\Rel G w' (S.setBox b (.cells ty (l.take o++xs++l.drop (o+xs.length)))) a:=by
 obtain⟨blk',arr,g1,g2,g3,g4,g5⟩:=h.bx _ (Vad hb);simp only at g1;rw[ho]at g1;simp at g1;subst g1
 have hvl:=hs.length
 have hal:arr.size=l.length:=by simpa using g4.length
 refine⟨w.setRow blk (arr.toList.take o++vs++arr.toList.drop (o+vs.length)).toArray,λP=>?_,?_⟩
 ·have:=run_storeCells_at (P:=P) blk o ty vs 0 arr w g2 kv h1;simpa using this
 ·obtain⟨s1,s2,s3⟩:=Vgg h.wf ho g2 g3 (arr.toList.take o++vs++arr.toList.drop (o+vs.length)).toArray
  have hper:∀ s u,RepS G w s u->RepS G (w.setRow blk (arr.toList.take o++vs++arr.toList.drop (o+vs.length)).toArray) s u:=
   λs u hs=>hs.persist s1.toExt (λ_ _=>rfl)
  refine⟨s1,s2,h.size,λt s ht=>hper _ _ (h.fr t s ht),λp hp=>?_,h.gn,h.defers⟩;simp only[St.setBox,Zz]at hp;obtain⟨q,hq,rfl⟩:=hp
  split
  ·rename_i hqb;refine⟨blk,_,by rw[hqb];exact ho,setRow_heap w blk arr _ ty _ g2,g3,?_,?_⟩
   ·have q1:RepSs G w (l.take o++xs++l.drop (o+xs.length)) (arr.toList.take o++vs++arr.toList.drop (o+vs.length)):=by
     rw[hvl];exact((g4.take o).append hs).append (g4.drop _)
    have:=q1.map (φ:=id) (G':=G) (w':=w.setRow blk (arr.toList.take o++vs++arr.toList.drop (o+vs.length)).toArray) hper;simpa using this
   ·intro x hx;simp only[Ze]at hx;rcases hx with(hx|hx)|hx
    ·exact g5 x (Zg hx)
    ·exact h1 x hx
    ·exact g5 x (Zh hx)
  ·rename_i hqb;exact(h.bx q hq).persist s1.toExt (s3 (q.1,0) (by simpa using hqb)) (λ_ _=>rfl)
end Go.Eng
namespace Go.Eng
def Vak(P:Program)(t:TypeId):Option (Nat×Nat×Option Value):=(P.info? t).map (λi=>(i.size,i.bytes,i.zero))
def tAgg(P:Program)(t:TypeId):Option Bool:=(P.underlying t).map (λ| .struct _=>true| .array _ _=>true|_=>false)
def Vjs(P:Program)(s f:Nat):Option (Nat×TypeId):=
 match P.underlying s with
 |some (.struct fs)=>(fs[f]?).map (λx=>(x.offset,x.type))
 |_=>none
def Vbb(P:Program)(t:TypeId):Option TypeId:=
 match P.underlying t with
 |some (.slice e)=>some e
 |_=>none
def tStr(P:Program)(t:TypeId):Bool:=
 match P.underlying t with
 |some .string=>true
 |_=>false
def tMap(P:Program)(t:TypeId):Option (TypeId×TypeId):=
 match P.underlying t with
 |some (.map k e)=>some (k,e)
 |_=>none
section
variable {P:Program}
theorem Vc8{t:TypeId}{i:TypeInfo}(h:P.info? t=some i)(w:World):(typeInfo t).run P w=.ok i w:=by simp[typeInfo,h]
theorem Va0{t:TypeId}{d:TypeDesc}(h:P.underlying t=some d)(w:World):(underlying t).run P w=.ok d w:=by simp[underlying,h]
theorem Vab{t:TypeId}{n b:Nat}{z:Option Value}(h:Vak P t=some (n,b,z))(w:World):(sizeOf t).run P w=.ok n w:=by
 simp only[Vak,Zb]at h;obtain⟨i,h1,h2⟩:=h;simp only[Zd]at h2;simp[sizeOf,Vc8 h1,h2.1]
theorem Vam{t:TypeId}{n b:Nat}{z:Value}(h:Vak P t=some (n,b,some z))(w:World):(zeroValue t).run P w=.ok z w:=by
 simp only[Vak,Zb]at h;obtain⟨i,h1,h2⟩:=h;simp only[Zd]at h2;simp[zeroValue,Vc8 h1,h2.2.2]
theorem Vd5{t:TypeId}{b:Bool}(h:tAgg P t=some b)(w:World):(isAgg t).run P w=.ok b w:=by
 simp only[tAgg,Zb]at h;obtain⟨d,h1,h2⟩:=h;simp only[isAgg,Sem.run_bind,Va0 h1,Result.andThen_ok];cases d <;>simp_all
end
def AV.cells:AV->List AV
 | .agg l=>l
 |x=>[x]
theorem Rep.cells{U:Nat->Nat}{w:World}{x:AV}{u:Value}(h:Rep U w x u)(ht:∀ l,x≠ .tup l):RepL U w x.cells u.cells.toList/\∀ c∈u.cells.toList,c.oneCell'=true:=by
 cases x with
 |agg l=>
  simp only[Rep]at h;obtain⟨us,rfl,h2,h3⟩:=h;exact⟨h2,h3⟩
 |val v=>
  have h0:=h;simp only[Rep]at h;obtain⟨rfl,h2⟩:=h
  have:u.cells=#[u]:=by cases u <;>simp_all[Value.cells,Value.oneCell']
  rw[this];exact⟨by simp only[AV.cells,RepL];exact⟨u,[],rfl,h0,rfl⟩,by simpa using h2⟩
 |sl l=>
  have h0:=h;simp only[Rep]at h;obtain⟨a,cap,es,sz,rfl,_⟩:=h;exact⟨by simp only[AV.cells,RepL];exact⟨_,[],rfl,h0,rfl⟩,by simp[Value.cells,Value.oneCell']⟩
 |tup l=>exact(ht l rfl).elim
 |ro l off=>
  have h0:=h;simp only[Rep]at h;obtain⟨b,o,us,rfl,_⟩:=h;exact⟨by simp only[AV.cells,RepL];exact⟨_,[],rfl,h0,rfl⟩,by simp[Value.cells,Value.oneCell']⟩
 |fs n q l=>
  have h0:=h;simp only[Rep]at h;obtain⟨a,cap,es,sz,rfl,_⟩:=h;exact⟨by simp only[AV.cells,RepL];exact⟨_,[],rfl,h0,rfl⟩,by simp[Value.cells,Value.oneCell']⟩
 |fz q l=>
  have h0:=h;simp only[Rep]at h;obtain⟨a,cap,es,sz,rfl,_⟩:=h;exact⟨by simp only[AV.cells,RepL];exact⟨_,[],rfl,h0,rfl⟩,by simp[Value.cells,Value.oneCell']⟩
 |rm ks vs=>
  have h0:=h;simp only[Rep]at h;obtain⟨b,ents,clock,rfl,_⟩:=h;exact⟨by simp only[AV.cells,RepL];exact⟨_,[],rfl,h0,rfl⟩,by simp[Value.cells,Value.oneCell']⟩
 |im ks vs=>
  have h0:=h;simp only[Rep]at h;obtain⟨b,ents,clock,rfl,_⟩:=h;exact⟨by simp only[AV.cells,RepL];exact⟨_,[],rfl,h0,rfl⟩,by simp[Value.cells,Value.oneCell']⟩
def AV.isTup:AV->Bool
 | .tup _=>true
 |_=>false
theorem Rep.cells'{U:Nat->Nat}{w:World}{x:AV}{u:Value}(h:Rep U w x u)(ht:x.isTup=false):RepL U w x.cells u.cells.toList/\∀ c∈u.cells.toList,c.oneCell'=true:=
 h.cells (λl e=>by subst e;simp[AV.isTup]at ht)
def AV.toCell:AV->SV
 | .val (.slice none 0 0)=>.nil
 |x=>.av x
theorem Vmp{G:Gh}{w:World}:∀ {l:List AV} {us:List Value},RepL G.U w l us->RepSs G w (l.map AV.toCell) us
 |[],_,h=>by simpa[RepL,RepSs]using h
 |x::l,us,h=>by
  simp only[RepL]at h;obtain⟨u,us',rfl,h2,h3⟩:=h;refine⟨u,us',rfl,?_,Vmp h3⟩;unfold AV.toCell
  split
  ·simp only[Rep]at h2;exact h2.1
  ·exact h2
def SV.cells:SV->Option (List SV)
 | .av (.agg l)=>some (l.map AV.toCell)
 | .av (.tup _)=>none
 | .junk=>none
 | .ag l=>some (l.map CV.toSV)
 | .tp _=>none
 | .clo l=>some [.av (.sl l)]
 |s=>some [s]
theorem Vqr{G:Gh}{w:World}:∀ {l:List CV} {us:List Value},RepCs G w l us->RepSs G w (l.map CV.toSV) us
 |[],_,h=>h
 |x::l,us,h=>by obtain⟨u,us',h1,h2,h3⟩:=h;exact⟨u,us',h1,h2.toSV,Vqr h3⟩
theorem RepS.cells{G:Gh}{w:World}{s:SV}{u:Value}{l:List SV}(h:RepS G w s u)(hl:s.cells=some l):RepSs G w l u.cells.toList/\∀ c∈u.cells.toList,c.oneCell'=true:=by
 cases s with
 |junk=>simp[SV.cells]at hl
 |nil=>simp[SV.cells]at hl;subst hl;simp only[RepS]at h;subst h;exact⟨⟨_,[],rfl,rfl,rfl⟩,by simp[Value.cells,Value.oneCell']⟩
 |ptr b o=>simp[SV.cells]at hl;subst hl;have h0:=h;obtain⟨blk,_,rfl⟩:=h;exact⟨⟨_,[],rfl,h0,rfl⟩,by simp[Value.cells,Value.oneCell']⟩
 |mp b=>simp[SV.cells]at hl;subst hl;have h0:=h;obtain⟨blk,_,rfl⟩:=h;exact⟨⟨_,[],rfl,h0,rfl⟩,by simp[Value.cells,Value.oneCell']⟩
 |son b=>simp[SV.cells]at hl;subst hl;have h0:=h;rcases h with rfl|⟨blk,_,rfl⟩ <;>exact⟨⟨_,[],rfl,h0,rfl⟩,by simp[Value.cells,Value.oneCell']⟩
 |vs b n=>simp[SV.cells]at hl;subst hl;have h0:=h;rcases h with⟨_,rfl,_⟩|⟨blk,_,_,rfl,_⟩ <;>exact⟨⟨_,[],rfl,h0,rfl⟩,by simp[Value.cells,Value.oneCell']⟩
 |vw b sz o n=>simp[SV.cells]at hl;subst hl;have h0:=h;obtain⟨_,_,rfl,_⟩:=h;exact⟨⟨_,[],rfl,h0,rfl⟩,by simp[Value.cells,Value.oneCell']⟩
 |vp b sz i o=>simp[SV.cells]at hl;subst hl;have h0:=h;obtain⟨blk,_,rfl⟩:=h;exact⟨⟨_,[],rfl,h0,rfl⟩,by simp[Value.cells,Value.oneCell']⟩
 |ag l'=>simp only[SV.cells,Za]at hl;subst hl;obtain⟨us,rfl,h2,h3⟩:=h;exact⟨Vqr h2,h3⟩
 |tp l'=>simp[SV.cells]at hl
 |clo l'=>simp[SV.cells]at hl;subst hl;obtain⟨⟨b,off,rfl⟩,h2⟩:=h;exact⟨⟨_,[],rfl,h2,rfl⟩,by simp[Value.cells,Value.oneCell']⟩
 |fn f fs cs=>simp[SV.cells]at hl;subst hl;have h0:=h;obtain⟨vs,us,rfl,_⟩:=h;exact⟨⟨_,[],rfl,h0,rfl⟩,by simp[Value.cells,Value.oneCell']⟩
 |own k g sz l'=>
  simp[SV.cells]at hl;subst hl
  have h0:=h;obtain⟨_,_,a,cap,es,rfl,_⟩:=h;exact⟨⟨_,[],rfl,h0,rfl⟩,by simp[Value.cells,Value.oneCell']⟩
 | av x=>
  have hx:Rep G.U w x u:=h;cases x with
  |agg l'=>
   simp[SV.cells]at hl;subst hl;obtain⟨h1,h2⟩:=hx.cells ku;exact⟨Vmp h1,h2⟩
  |tup l'=>simp[SV.cells]at hl
  |val v=>
   simp[SV.cells]at hl;subst hl;obtain⟨h1,h2⟩:=hx.cells ku;exact⟨Vd1 h1,h2⟩
  |sl l'=>
   simp[SV.cells]at hl;subst hl;obtain⟨h1,h2⟩:=hx.cells ku;exact⟨Vd1 h1,h2⟩
  |ro l' o=>
   simp[SV.cells]at hl;subst hl;obtain⟨h1,h2⟩:=hx.cells ku;exact⟨Vd1 h1,h2⟩
  |fs n q l'=>
   simp[SV.cells]at hl;subst hl;obtain⟨h1,h2⟩:=hx.cells ku;exact⟨Vd1 h1,h2⟩
  |fz q l'=>
   simp[SV.cells]at hl;subst hl;obtain⟨h1,h2⟩:=hx.cells ku;exact⟨Vd1 h1,h2⟩
  |rm ks vs=>
   simp[SV.cells]at hl;subst hl;obtain⟨h1,h2⟩:=hx.cells ku;exact⟨Vd1 h1,h2⟩
  |im ks vs=>
   simp[SV.cells]at hl;subst hl;obtain⟨h1,h2⟩:=hx.cells ku;exact⟨Vd1 h1,h2⟩
theorem Vce{P:Program}{o:Oper}{S:St}{x:Operand}(ho:o.op=.move x\/o.op=.assign x):Sound P o S ⟨True,S.ev x,S⟩:=
 Sound.still λ_ G w a hr=>⟨a.eval x,by rcases ho with ho|ho <;>simp[execOp,ho],hr.ev x⟩
theorem Vly{P:Program}{o:Oper}{S:St}{c x y:Operand}{p:Bool}(ho:o.op=.pick c x y)(hc:S.ev c=.av (.val (.bool p))):Sound P o S ⟨True,if p then S.ev x else S.ev y,S⟩:=
 Sound.still λ_ G w a hr=>by
  have h:=hr.ev c;rw[hc]at h;simp only[RepS,Rep]at h;refine⟨if p then a.eval x else a.eval y,by simp[execOp,ho,h.1,asBool],?_⟩;cases p
  ·exact hr.ev y
  ·exact hr.ev x
theorem Vfc{P:Program}{o:Oper}{S:St}{op:BinOp}{t t':TypeId}{x y:Operand}{u v:Value}{p:Prop}{r:Value}(ho:o.op=.binOp op t x y t')(hx:S.ev x=.av (.val u))(hy:S.ev y=.av (.val v))
  (hb:aBin op u v=some (p,r)):Sound P o S ⟨p,.av (.val r),S⟩:=
 Sound.still λhp G w a hr=>by
  have h1:=hr.ev x;rw[hx]at h1;simp only[RepS,Rep]at h1
  have h2:=hr.ev y;rw[hy]at h2;simp only[RepS,Rep]at h2;obtain⟨h3,h4⟩:=aBin_sound (P:=P) hb hp t w x y;refine⟨r,?_,⟨rfl,h4⟩⟩;simp only[execOp,ho,h1.1,h2.1];simp only[Sem.run_bind]at h3 ⊢;rw[h3];rfl
def aUn(op:UnOp)(v:Value):Option Value:=
 match op,v with
 | .not,.bool b=>some (.bool (!b))
 | .neg,.int k n=>some (.int k (k.wrap (0-n)))
 |_,_=>none
theorem sound_un{P:Program}{o:Oper}{S:St}{op:UnOp}{t:TypeId}{x:Operand}{u r:Value}(ho:o.op=.unOp op t x)(hx:S.ev x=.av (.val u))(hb:aUn op u=some r):Sound P o S ⟨True,.av (.val r),S⟩:=
 Sound.still λ_ G w a hr=>by
  have h1:=hr.ev x;rw[hx]at h1;simp only[RepS,Rep]at h1;unfold aUn at hb
  split at hb
  ·simp at hb;subst hb;exact⟨_,by simp[execOp,ho,h1.1,Op.unary],⟨rfl,rfl⟩⟩
  ·simp at hb;subst hb;exact⟨_,by simp[execOp,ho,h1.1,Op.unary,Op.intArith],⟨rfl,rfl⟩⟩
  ·simp at hb
theorem Vn7{P:Program}{o:Oper}{S:St}{x:Operand}{i:Nat}{l:List AV}{y:AV}(ho:o.op=.extract x i)(hx:S.ev x=.av (.tup l))(hy:l[i]? =some y):Sound P o S ⟨True,.av y,S⟩:=
 Sound.still λ_ G w a hr=>by
  have h1:=hr.ev x;rw[hx]at h1;simp only[RepS,Rep]at h1;obtain⟨us,h2,h3⟩:=h1;obtain⟨u,h4,h5⟩:=h3.get i y hy
  have h6:us[i]? =some u:=by simpa using h4
  exact⟨u,by simp[execOp,ho,h2,Instr.extract,h6],h5⟩
theorem Vgy{P:Program}{o:Oper}{S:St}{x:Operand}{b off:Nat}(ho:o.op=.nilCheck x)(hx:S.ev x=.ptr b off):Sound P o S ⟨True,.ptr b off,S⟩:=
 Sound.still λ_ G w a hr=>by
  have h1:=hr.ev x;rw[hx]at h1
  have h0:=h1;obtain⟨blk,h2,h3⟩:=h1;exact⟨_,by simp only[execOp,ho,h3];rfl,by rw[<-h3];exact h0⟩
theorem Vhv{P:Program}{o:Oper}{S:St}{x:Operand}{l:List AV}{off:Nat}(ho:o.op=.nilCheck x)(hx:S.ev x=.av (.ro l off)):Sound P o S ⟨True,.av (.ro l off),S⟩:=
 Sound.still λ_ G w a hr=>by
  have h1:=hr.ev x;rw[hx]at h1
  have h0:=h1;simp only[RepS,Rep]at h1;obtain⟨b,o',us,h3,_⟩:=h1;exact⟨_,by simp only[execOp,ho,h3];rfl,by rw[<-h3];exact h0⟩
theorem Vba(b o n:Nat):(⟨b,o,none⟩:Addr).add n=⟨b,o+n,none⟩:=by
 unfold Addr.add;split <;>simp_all
theorem Vgm{P:Program}{s f off:Nat}{ft:TypeId}{sz bt:Nat}{z:Option Value}(h:Vjs P s f=some (off,ft))(hs:Vak P ft=some (sz,bt,z))(h0:sz≠0)(b o:Nat)(w:World):
  (Instr.fieldAt s (.pointer (some ⟨b,o,none⟩)) f).run P w=.ok (.pointer (some ⟨b,o+off,none⟩)) w:=by
 unfold Vjs at h
 split at h
 ·rename_i fs hu;simp only[Zb,Zd]at h;obtain⟨fd,h1,h2,h3⟩:=h;subst h3;simp[Instr.fieldAt,Va0 hu,h1,Instr.sureAddr,fieldPlace,Vab hs,h0,Vba,h2]
 ·simp at h
theorem Vgi{P:Program}{o:Oper}{S:St}{s f off:Nat}{ft:TypeId}{sz bt:Nat}{z:Option Value}{x:Operand}{b k:Nat}(ho:o.op=.fieldAddr s x f)(hx:S.ev x=.ptr b k)
  (h:Vjs P s f=some (off,ft)) (hs:Vak P ft=some (sz,bt,z)) (h0:sz≠0):Sound P o S ⟨True,.ptr b (k+off),S⟩:=
 Sound.still λ_ G w a hr=>by
  have h1:=hr.ev x;rw[hx]at h1;obtain⟨blk,h2,h3⟩:=h1;refine⟨_,by simp only[execOp,ho,h3,Sem.run_bind,Vgm h hs h0];rfl,⟨blk,h2,rfl⟩⟩
theorem Vh3{P:Program}{o:Oper}{S:St}{s f off:Nat}{ft:TypeId}{sz bt:Nat}{z:Option Value}{x:Operand}{l:List AV}{k:Nat}(ho:o.op=.fieldAddr s x f)(hx:S.ev x=.av (.ro l k))
  (h:Vjs P s f=some (off,ft)) (hs:Vak P ft=some (sz,bt,z)) (h0:sz≠0):Sound P o S ⟨True,.av (.ro l (k+off)),S⟩:=
 Sound.still λ_ G w a hr=>by
  have h1:=hr.ev x;rw[hx]at h1;simp only[RepS,Rep]at h1;obtain⟨b,o',us,h3,h4⟩:=h1;refine⟨_,by simp only[execOp,ho,h3,Sem.run_bind,Vgm h hs h0];rfl,?_⟩;simp only[RepS,Rep];exact⟨b,o',us,by rw[Z1],h4⟩
theorem Vb0{P:Program}{t:TypeId}(h:tAgg P t=some false){w:World}{b o:Nat}{v:Value}(hc:w.cell? ⟨b,o,none⟩=some v):(loadVar t ⟨b,o,none⟩).run P w=.ok v w:=by
 simp[loadVar,Vd5 h,hc]
theorem Vbg{P:Program}{t:TypeId}(h:tAgg P t=some true){sz bt:Nat}{z:Option Value}(hs:Vak P t=some (sz,bt,z)){w:World}{b o:Nat}{vs:List Value}(hl:vs.length=sz)(hc:∀ j v,vs[j]? =some v->w.cell? ⟨b,o+j,none⟩=some v):
  (loadVar t ⟨b,o,none⟩).run P w=.ok (.agg vs.toArray) w:=by
 have:=run_loadCells_list (P:=P) w ⟨b,o,none⟩ vs (λj v hj=>by rw[Vba];exact hc j v hj);rw[hl]at this;simp[loadVar,Vd5 h,Vab hs,this]
def SV.allAV:List SV->Option (List AV)
 |[]=>some []
 |s::l=>match s.toAV,SV.allAV l with
  |some x,some r=>some (x::r)
  |_,_=>none
theorem RepSs.allAV{G:Gh}{w:World}:∀ {l:List SV} {us:List Value} {r:List AV},RepSs G w l us->SV.allAV l=some r->RepL G.U w r us
 |[],us,r,h,hr=>by simp[SV.allAV]at hr;subst hr;simp only[RepSs]at h;subst h;simp[RepL]
 |s::l,us,r,h,hr=>by
  simp only[SV.allAV]at hr
  split at hr
  ·rename_i x r' hx hr';simp at hr;subst hr;obtain⟨u,us',rfl,h2,h3⟩:=h;simp only[RepL];exact⟨u,us',rfl,h2.toAV hx,h3.allAV hr'⟩
  ·simp at hr
theorem Vlp{P:Program}{o:Oper}{S:St}{t:TypeId}{x:Operand}{b k:Nat}{ty:TypeId}{l:List SV}{s:SV}(ho:o.op=.load t x)(hx:S.ev x=.ptr b k)(ht:tAgg P t=some false)(hb:S.bx.lookup b=some (.cells ty l))(hs:l[k]? =some s):Sound P o S ⟨True,s,S⟩:=
 Sound.still λ_ G w a hr=>by
  have h1:=hr.ev x;rw[hx]at h1;obtain⟨blk,h2,h3⟩:=h1;obtain⟨blk',arr,g1,g2,g3,g4,g5⟩:=hr.bx _ (Vad hb);simp only at g1;rw[h2]at g1;simp at g1;subst g1;obtain⟨u,h4,h5⟩:=g4.get k s hs
  have hc:w.cell? ⟨blk,k,none⟩=some u:=by simpa[World.cell?,g2]using h4
  exact⟨u,by simp[execOp,ho,h3,Instr.loadAt,Instr.sureAddr,Vb0 ht hc],h5⟩
theorem Vh1{P:Program}{o:Oper}{S:St}{t:TypeId}{sz bt:Nat}{z:Option Value}{x:Operand}{b k:Nat}{ty:TypeId}{l:List SV}{r:List AV}(ho:o.op=.load t x)(hx:S.ev x=.ptr b k)(ht:tAgg P t=some true)(hi:Vak P t=some (sz,bt,z))
  (hb:S.bx.lookup b=some (.cells ty l)) (hs:SV.allAV ((l.drop k).take sz)=some r) (hsz:r.length=sz):Sound P o S ⟨True,.av (.agg r),S⟩:=
 Sound.still λ_ G w a hr=>by
  have h1:=hr.ev x;rw[hx]at h1;obtain⟨blk,h2,h3⟩:=h1;obtain⟨blk',arr,g1,g2,g3,g4,g5⟩:=hr.bx _ (Vad hb);simp only at g1;rw[h2]at g1;simp at g1;subst g1
  have h4:=((g4.drop k).take sz).allAV hs
  have hl:=h4.length
  have hc:∀ j v,((arr.toList.drop k).take sz)[j]? =some v->w.cell? ⟨blk,k+j,none⟩=some v:=by
   intro j v hj;rw[Zw]at hj
   split at hj
   ·simp only[Z5]at hj;simpa[World.cell?,g2]using hj
   ·simp at hj
  refine⟨.agg ((arr.toList.drop k).take sz).toArray,by simp[execOp,ho,h3,Instr.loadAt,Instr.sureAddr,Vbg ht hi (hl.trans hsz) hc],?_⟩;simp only[RepS,Rep];exact⟨_,rfl,h4,λy hy=>g5 y (Zh (Zg hy))⟩
def SV.allCV:List SV->Option (List CV)
 |[]=>some []
 | .av x::l=>(SV.allCV l).map (λr=>.av x::r)
 | .nil::l=>(SV.allCV l).map (λr=>.nil::r)
 | .own k g sz y::l=>(SV.allCV l).map (λr=>.own k g sz y::r)
 |_::_=>none
def SV.isTok:SV->Bool
 | .nil=>true
 | .own _ _ _ _=>true
 |_=>false
theorem RepSs.allCV{G:Gh}{w:World}:∀ {l:List SV} {us:List Value} {r:List CV},RepSs G w l us->SV.allCV l=some r->RepCs G w r us
 |[],us,r,h,hr=>by simp[SV.allCV]at hr;subst hr;exact h
 |s::l,us,r,h,hr=>by
  obtain⟨u,us',rfl,h2,h3⟩:=h;cases s with
  |av x=>simp only[SV.allCV,Zb]at hr;obtain⟨r',hr',rfl⟩:=hr;exact⟨u,us',rfl,h2,RepSs.allCV h3 hr'⟩
  |nil=>simp only[SV.allCV,Zb]at hr;obtain⟨r',hr',rfl⟩:=hr;exact⟨u,us',rfl,h2,RepSs.allCV h3 hr'⟩
  |own k g sz y=>simp only[SV.allCV,Zb]at hr;obtain⟨r',hr',rfl⟩:=hr;exact⟨u,us',rfl,h2,RepSs.allCV h3 hr'⟩
  |_=>simp[SV.allCV]at hr
theorem Vdu:∀ {l:List SV} {r:List CV},SV.allCV l=some r->r.length=l.length
 |[],r,hr=>by simp[SV.allCV]at hr;subst hr;rfl
 |s::l,r,hr=>by
  cases s with
  |av x=>simp only[SV.allCV,Zb]at hr;obtain⟨r',hr',rfl⟩:=hr;simp[Vdu hr']
  |nil=>simp only[SV.allCV,Zb]at hr;obtain⟨r',hr',rfl⟩:=hr;simp[Vdu hr']
  |own k g sz y=>simp only[SV.allCV,Zb]at hr;obtain⟨r',hr',rfl⟩:=hr;simp[Vdu hr']
  |_=>simp[SV.allCV]at hr
theorem Vkk{P:Program}{S:St}{t:TypeId}{sz bt:Nat}{z:Option Value}{b k:Nat}{ty:TypeId}{l:List SV}{r:List CV}(ht:tAgg P t=some true)(hi:Vak P t=some (sz,bt,z))
  (hb:S.bx.lookup b=some (.cells ty l)) (hs:SV.allCV ((l.drop k).take sz)=some r) (hsz:r.length=sz) {G:Gh} {w:World} {a:Act} (hr:Rel G w S a) {blk:Nat} (h2:G.ow (b,0)=some blk):∃ v,(loadVar t ⟨blk,k,none⟩).run P w=.ok v w/\RepS G w (.ag r) v:=by
 obtain⟨blk',arr,g1,g2,g3,g4,g5⟩:=hr.bx _ (Vad hb);simp only at g1;rw[h2]at g1;simp at g1;subst g1
 have h4:=((g4.drop k).take sz).allCV hs
 have hl:((arr.toList.drop k).take sz).length=sz:=by
  have:=((g4.drop k).take sz).length;rw[this, <-Vdu hs];exact hsz
 have hc:∀ j v,((arr.toList.drop k).take sz)[j]? =some v->w.cell? ⟨blk,k+j,none⟩=some v:=by
  intro j v hj;rw[Zw]at hj
  split at hj
  ·simp only[Z5]at hj;simpa[World.cell?,g2]using hj
  ·simp at hj
 exact⟨_,Vbg ht hi hl hc,_,rfl,by simpa using h4,λy hy=>g5 y (by simp only at hy;exact Zh (Zg hy))⟩
theorem Vhy{P:Program}{o:Oper}{S:St}{t:TypeId}{sz bt:Nat}{z:Option Value}{x:Operand}{b k:Nat}{ty:TypeId}{l:List SV}{r:List CV}(ho:o.op=.load t x)(hx:S.ev x=.ptr b k)(ht:tAgg P t=some true)(hi:Vak P t=some (sz,bt,z))
  (hb:S.bx.lookup b=some (.cells ty l)) (hs:SV.allCV ((l.drop k).take sz)=some r) (hsz:r.length=sz):Sound P o S ⟨True,.ag r,S⟩:=
 Sound.still λ_ G w a hr=>by
  have h1:=hr.ev x;rw[hx]at h1;obtain⟨blk,h2,h3⟩:=h1;obtain⟨v,e1,e2⟩:=Vkk ht hi hb hs hsz hr h2;exact⟨v,by simp[execOp,ho,h3,Instr.loadAt,Instr.sureAddr,e1],e2⟩
theorem Vj1{P:Program}{o:Oper}{S:St}{x:Operand}{i:Nat}{l:List XV}{y:XV}(ho:o.op=.extract x i)(hx:S.ev x=.tp l)(hy:l[i]? =some y):Sound P o S ⟨True,y.toSV,S⟩:=
 Sound.still λ_ G w a hr=>by
  have h1:=hr.ev x;rw[hx]at h1;obtain⟨us,h2,h3⟩:=h1;obtain⟨u,h4,h5⟩:=h3.get i y hy
  have h6:us[i]? =some u:=by simpa using h4
  exact⟨u,by simp[execOp,ho,h2,Instr.extract,h6],h5.toSV⟩
theorem Vn5{P:Program}{o:Oper}{S:St}{t:TypeId}{x:Operand}{k:Nat}{l:List AV}{s:AV}(ho:o.op=.load t x)(hx:S.ev x=.av (.ro l k))(ht:tAgg P t=some false)(hs:l[k]? =some s):Sound P o S ⟨True,.av s,S⟩:=
 Sound.still λ_ G w a hr=>by
  have h1:=hr.ev x;rw[hx]at h1;simp only[RepS,Rep]at h1;obtain⟨b,o',us,h3,h4,h5,h6⟩:=h1;obtain⟨u,h7,h8⟩:=h4.get k s hs;exact⟨u,by simp[execOp,ho,h3,Instr.loadAt,Instr.sureAddr,Vb0 ht (h6 k u h7).1],h8⟩
theorem Vhx{P:Program}{o:Oper}{S:St}{t:TypeId}{sz bt:Nat}{z:Option Value}{x:Operand}{k:Nat}{l:List AV}(ho:o.op=.load t x)(hx:S.ev x=.av (.ro l k))(ht:tAgg P t=some true)(hi:Vak P t=some (sz,bt,z))
  (hsz:k+sz<=l.length):Sound P o S ⟨True,.av (.agg ((l.drop k).take sz)),S⟩:=
 Sound.still λ_ G w a hr=>by
  have h1:=hr.ev x;rw[hx]at h1;simp only[RepS,Rep]at h1;obtain⟨b,o',us,h3,h4,h5,h6⟩:=h1
  have h7:=(h4.drop k).take sz
  have hl:=h4.length
  have hc:∀ j v,((us.drop k).take sz)[j]? =some v->w.cell? ⟨b,(o'+k)+j,none⟩=some v:=by
   intro j v hj;rw[Zw]at hj
   split at hj
   ·simp only[Z5]at hj;have:=(h6 _ v hj).1;rwa[Z1]
   ·simp at hj
  refine⟨.agg ((us.drop k).take sz).toArray,by simp[execOp,ho,h3,Instr.loadAt,Instr.sureAddr,Vbg ht hi (vs:=(us.drop k).take sz) (by simp;omega) hc],?_⟩;simp only[RepS,Rep];refine⟨_,rfl,h7,λy hy=>?_⟩
  have hy':=Zh (Zg hy);obtain⟨j,hj⟩:=List.mem_iff_getElem?.1 hy';exact(h6 j y hj).2
theorem Vjt{P:Program}{o:Oper}{S:St}{t:TypeId}{sz bt:Nat}{z:Option Value}{x y:Operand}{b k:Nat}{ty:TypeId}{l xs:List SV}(ho:o.op=.store t x y)(hx:S.ev x=.ptr b k)(hi:Vak P t=some (sz,bt,z))
  (hb:S.bx.lookup b=some (.cells ty l)) (hs:(S.ev y).cells=some xs) (hsz:xs.length=sz) (hle:k+sz<=l.length):
  Sound P o S ⟨True,Vas,S.setBox b (.cells ty (l.take k++xs++l.drop (k+xs.length)))⟩:=by
 intro _ G w a hr
 have h1:=hr.ev x;rw[hx]at h1;obtain⟨blk,h2,h3⟩:=h1;obtain⟨h4,h5⟩:=(hr.ev y).cells hs
 have hl:=h4.length;obtain⟨w',e1,e2,e3⟩:=hr.storeBox hb h2 k h4 h5 kv;refine⟨.skip,undef,w',G,?_,.inr ⟨rfl,rfl⟩,e2,e3,?_,λ_ _=>rfl⟩
 ·have hcs:(a.eval y).cells.size=sz:=by simpa[hsz]using hl
  simp[execOp,ho,h3,Instr.storeAt,Instr.sureAddr,storeVar,Vab hi,hcs,e1 P]
 ·simp only[Vas,RepS,Rep];exact⟨#[],rfl,by simp[RepL]⟩
def zeroCells(z:Value):List SV:=z.cells.toList.map Vfr
theorem Vld{G:Gh}{w:World}:∀(l:List Value),RepSs G w (l.map Vfr) l
 |[]=>rfl
 |c::l=>⟨c,l,rfl,Vmr G w c,Vld l⟩
theorem Vl1(id:Nat)(v:Value):(Vfr v).names id=false:=by
 unfold Vfr
 split
 ·rfl
 ·split
  ·split <;>rfl
  ·rfl
 ·rfl
 ·rfl
theorem Vk1{P:Program}{o:Oper}{S:St}{t:TypeId}{sz bt:Nat}{z:Value}{id:Nat}(ho:o.op=.alloc t)(hi:Vak P t=some (sz,bt,some z))(h1:z.cells.toList.all (λc=>c.oneCell')=true)(hid:id<1000)(hn:S.names id=false):
  Sound P o S ⟨True,.ptr id 0,S.addBox id (.cells t (zeroCells z))⟩:=by
 intro _ G w a hr
 have h1':∀ x∈z.cells.toList,x.oneCell'=true:=λc hc=>Z0.1 h1 c hc
 obtain⟨e1,e2,e3⟩:=hr.newBox hn t (Vld z.cells.toList) (λs hs=>by simp only[Zz]at hs;obtain⟨v,_,rfl⟩:=hs;exact Vl1 id v) h1';refine⟨_,_,_,_,?_,.inl rfl,e1,e2,e3,λi hi=>?_⟩
 ·simp[execOp,ho,Instr.alloc,Vam hi,newVar,newRow]
 ·simp only[Gh.bind];rw[if_neg (by intro h;simp only[Zd]at h;omega)]
theorem sound_box{P:Program}{o:Oper}{S:St}{t:TypeId}{x:Operand}{id:Nat}{xs:List SV}(ho:o.op=.box t x)(hs:(S.ev x).cells=some xs)(hid:id<1000)(hn:S.names id=false)(hx:xs.all (λs=> !s.names id)=true):
  Sound P o S ⟨True,.ptr id 0,S.addBox id (.cells t xs)⟩:=by
 intro _ G w a hr;obtain⟨h4,h5⟩:=(hr.ev x).cells hs;obtain⟨e1,e2,e3⟩:=hr.newBox hn t h4 (λs hs=>by rw[Z0]at hx;simpa using hx s hs) h5;refine⟨_,_,_,_,?_,.inl rfl,e1,e2,e3,λi hi=>?_⟩
 ·simp[execOp,ho,Instr.box,newVar,newRow]
 ·simp only[Gh.bind];rw[if_neg (by intro h;simp only[Zd]at h;omega)]
end Go.Eng
namespace Go.Eng
theorem Vac{sz:Nat}:∀(es:List Value),(∀e∈es,e.cells.size=sz)->(Va1 es).length=es.length*sz
 |[],_=>by simp[Va1]
 |e::es,h=>by
  have h1:=h e ku
  have h2:=Vac es (λx hx=>h x (by simp[hx]));simp only[Va1,Zi,Zj]at h2 ⊢;simp only[Zc,h1,h2,List.length_cons,Zp];omega
theorem Vaw(a b:List Value):Va1 (a++b)=Va1 a++Va1 b:=by simp[Va1]
theorem Vd4{sz:Nat}:∀(es:List Value)(i:Nat)(e:Value),(∀e∈es,e.cells.size=sz)->es[i]? =some e->∀(j:Nat)(x:Value),e.cells.toList[j]? =some x->(Va1 es)[i*sz+j]? =some x
 |[],i,e,_,h,_,_,_=>by simp at h
 | e'::es,0,e,hs,h,j,x,hx=>by
  simp at h;subst h
  have hj:j<e'.cells.toList.length:=by
   rcases Zr j e'.cells.toList.length with h|h
   ·exact h
   ·simp[Zf h]at hx
  simp only[Va1,Zi,Nat.zero_mul,Nat.zero_add];rw[Zm hj];exact hx
 |e'::es,i+1,e,hs,h,j,x,hx=>by
  have h1:=hs e' ku
  have h2:=Vd4 es i e (λx hx=>hs x (by simp[hx])) (by simpa using h) j x hx;simp only[Va1,Zi]at h2 ⊢;rw[List.getElem?_append_right (by simp only[Zc,h1,Zp];omega)];simp only[Zc,h1];rw[show(i+1)*sz+j-sz=i*sz+j by rw[Zp];omega];exact h2
theorem Veg{sz:Nat}:∀(es:List Value)(n:Nat),(∀e∈es,e.cells.size=sz)->Va1 (es.take n)=(Va1 es).take (n*sz)
 |[],n,_=>by simp[Va1]
 |e::es,0,_=>by simp[Va1]
 |e::es,n+1,h=>by
  have h1:=h e ku
  have ih:=Veg es n (λx hx=>h x (by simp[hx]));simp only[Va1,List.take_succ_cons,Zi]at ih ⊢;rw[ih,List.take_append];simp only[Zc,h1];rw[show(n+1)*sz-sz=n*sz by rw[Zp];omega,List.take_of_length_le (l:=e.cells.toList) (by simp only[Zc,h1,Zp];omega)]
theorem Vge{sz:Nat}:∀(es:List Value)(n:Nat),(∀e∈es,e.cells.size=sz)->Va1 (es.drop n)=(Va1 es).drop (n*sz)
 |[],n,_=>by simp[Va1]
 |e::es,0,_=>by simp[Va1]
 |e::es,n+1,h=>by
  have h1:=h e ku
  have ih:=Vge es n (λx hx=>h x (by simp[hx]));simp only[Va1,List.drop_succ_cons,Zi]at ih ⊢;rw[ih,List.drop_append];simp only[Zc,h1];rw[show(n+1)*sz-sz=n*sz by rw[Zp];omega,Z9 (l:=e.cells.toList) (by simp only[Zc,h1,Zp];omega)];simp
def Uni(sz:Nat)(l:List AV):Prop:=∀ x∈l,x.cells.length=sz/\x.isTup=false
theorem RepL.mem{U:Nat->Nat}{w:World}:∀ {l:List AV} {us:List Value},RepL U w l us->∀ u∈us,∃x∈l,Rep U w x u
 |[],us,h,u,hu=>by simp only[RepL]at h;subst h;simp at hu
 |y::l,us,h,u,hu=>by
  simp only[RepL]at h;obtain⟨v,us',rfl,h2,h3⟩:=h;simp only[Z2]at hu;rcases hu with rfl|hu
  ·exact⟨y,by simp,h2⟩
  ·obtain⟨x,hx,hr⟩:=h3.mem u hu;exact⟨x,by simp[hx],hr⟩
theorem Uni.sizes{U:Nat->Nat}{w:World}{sz:Nat}{l:List AV}{es:List Value}(h:Uni sz l)(hr:RepL U w l es):∀ e∈es,e.cells.size=sz:=by
 intro e he;obtain⟨x,hx,hr⟩:=hr.mem e he;obtain⟨h1,h2⟩:=h x hx
 have:=(hr.cells' h2).1.length;simpa[h1]using this
theorem Lies.sub{U:Nat->Nat}{w:World}{b off:Nat}{cs:List Value}(h:Lies U w (some ⟨b,off,none⟩) cs)(n m:Nat):Lies U w (some ⟨b,off+n,none⟩) ((cs.drop n).take m):=by
 rcases h with h|⟨b',off',h1,h2,h3⟩
 ·subst h;exact .inl ku
 ·simp at h1;obtain⟨rfl,rfl⟩:=h1
  by_cases hz:(cs.drop n).take m=[]
  ·exact .inl hz
  ·refine .inr ⟨b,off+n,rfl,?_,λj x hx=>?_⟩
   ·have:0<((cs.drop n).take m).length:=List.length_pos_iff.2 hz;simp at this ⊢;omega
   ·rw[Zw]at hx
    split at hx
    ·simp only[Z5]at hx;have:=h3 _ x hx;rwa[Z1]
    ·simp at hx
theorem Vfb{P:Program}{o:Oper}{S:St}{t e:TypeId}{sz bt:Nat}{z:Option Value}{x ix:Operand}{l:List AV}{k:IntKind}{i:Int}(ho:o.op=.indexAddr t x ix)(hx:(S.ev x).toAV=some (.sl l))(hix:S.ev ix=.av (.val (.int k i)))
  (ht:Vbb P t=some e) (hi:Vak P e=some (sz,bt,z)) (hsz:0<sz):
  Sound P o S ⟨0<=i/\i<l.length/\(l.getD i.toNat (.val undef)).cells.length=sz/\(l.getD i.toNat (.val undef)).isTup=false,.av (.ro (l.getD i.toNat (.val undef)).cells 0),S⟩:=
 Sound.still λ⟨hi0,hi1,hc,htp⟩ G w a hr=>by
  have h1:=(hr.ev x).toAV hx
  have h2:=hr.ev ix;rw[hix]at h2;simp only[RepS,Rep]at h2;simp only[Rep]at h1;obtain⟨ad,cap,es,sz',g1,g2,g3,g4,g5,g6,g7⟩:=h1
  have hlt:i.toNat<l.length:=by omega
  have hget:l[i.toNat]? =some (l.getD i.toNat (.val undef)):=by simp[List.getD,List.getElem?_eq_getElem hlt]
  obtain⟨e1,he1,he2⟩:=g2.get _ _ hget;obtain⟨hc1,hc2⟩:=he2.cells' htp
  have hlen:=hc1.length;rw[hc]at hlen
  have hmem:e1∈es:=Zs he1
  have hsz':sz'=sz:=by rw[<-g3 e1 hmem];simpa using hlen
  subst hsz'
  have hne:Va1 es≠[]:=by
   intro h0
   have:=Vac es g3;rw[h0]at this
   have hp:0<es.length:=List.length_pos_of_mem hmem
   have:0<es.length*sz':=Nat.mul_pos hp hsz;simp_all
  rcases g7 with h0|⟨b,off,ha,hU,hcell⟩
  ·exact(hne h0).elim
  ·subst ha
   have ht':P.underlying t=some (.slice e):=by
    unfold Vbb at ht;split at ht
    ·rename_i hh;simp at ht;subst ht;exact hh
    ·simp at ht
   refine⟨.pointer (some ⟨b,off+i.toNat*sz',none⟩),?_,?_⟩
   ·simp[execOp,ho,h2.1,g1,Instr.indexAt,asIntOf,Va0 ht',Vab hi,hi0,hi1,Vba]
   ·simp only[RepS,Rep];refine⟨b,off+i.toNat*sz',e1.cells.toList,rfl,hc1,?_,λj y hj=>?_⟩
    ·have:=Vac es g3
     have hle:(i.toNat+1)*sz'<=es.length*sz':=Zx _ (by rw[g2.length];omega);rw[Zp]at hle;rw[this]at hU;omega
    ·have:=Vd4 es _ e1 g3 he1 j y hj
     have:=hcell _ y this;rwa[Z1]
theorem sound_index{P:Program}{o:Oper}{S:St}{t:TypeId}{x ix:Operand}{s:ByteArray}{k:IntKind}{i:Int}(ho:o.op=.index t x ix)(hx:S.ev x=.av (.val (.string s)))(hix:S.ev ix=.av (.val (.int k i)))(ht:tStr P t=true):
  Sound P o S ⟨0<=i/\i<s.size,.av (.val (.int .u8 ((s.data.getD i.toNat 0).toNat:Nat))),S⟩:=
 Sound.still λ⟨hi0,hi1⟩ G w a hr=>by
  have h1:=hr.ev x;rw[hx]at h1;simp only[RepS,Rep]at h1
  have h2:=hr.ev ix;rw[hix]at h2;simp only[RepS,Rep]at h2
  have ht':P.underlying t=some .string:=by
   unfold tStr at ht;split at ht
   ·assumption
   ·simp at ht
  have hlt:i.toNat<s.size:=by omega
  have hg:s[i.toNat]? =some (s.data.getD i.toNat 0):=by
   have:i.toNat<s.data.size:=hlt;rw[getElem?_pos s i.toNat hlt];simp only[Array.getD,this,dif_pos];rfl
  refine⟨_,?_,⟨rfl,rfl⟩⟩;simp[execOp,ho,h1.1,h2.1,Instr.index,asIntOf,Va0 ht',hi0,hg]
def Vaz(S:St)(d:Int)(k:IntKind)(i:Int):Option Operand->Prop
 |none=>i=d
 |some y=>S.ev y=.av (.val (.int k i))
theorem Vju{P:Program}{o:Oper}{S:St}{t:TypeId}{x:Operand}{lo hi:Option Operand}{s:ByteArray}{k k':IntKind}{i j:Int}(ho:o.op=.slice t x lo hi none)(hx:S.ev x=.av (.val (.string s)))
  (hlo:Vaz S 0 k i lo) (hhi:Vaz S s.size k' j hi) (ht:tStr P t=true):
  Sound P o S ⟨0<=i/\i<=j/\j<=s.size,.av (.val (.string (s.extract i.toNat j.toNat))),S⟩:=
 Sound.still λ⟨hi0,hi1,hi2⟩ G w a hr=>by
  have h1:=hr.ev x;rw[hx]at h1;simp only[RepS,Rep]at h1
  have ht':P.underlying t=some .string:=by
   unfold tStr at ht;split at ht
   ·assumption
   ·simp at ht
  have hj0:0<=j:=by omega
  have hij:i<=(j.toNat:Int):=by omega
  have hij':i.toNat<=j.toNat:=by omega
  refine⟨_,?_,⟨rfl,rfl⟩⟩;cases lo with
  | none=>
   simp only[Vaz]at hlo;subst hlo;cases hi with
   |none=>simp only[Vaz]at hhi;subst hhi;simp[execOp,ho,h1.1,Instr.sliceAt,Instr.slice,Va0 ht',Instr.sliceBounds]
   |some y=>
    simp only[Vaz]at hhi
    have h2:=hr.ev y;rw[hhi]at h2;simp only[RepS,Rep]at h2;simp[execOp,ho,h1.1,h2.1,Instr.sliceAt,Instr.slice,Va0 ht',Instr.sliceBounds,Instr.sliceBound,asIntOf,hj0,hi2]
  | some y'=>
   simp only[Vaz]at hlo
   have h3:=hr.ev y';rw[hlo]at h3;simp only[RepS,Rep]at h3;cases hi with
   |none=>
    simp only[Vaz]at hhi;subst hhi;simp[execOp,ho,h1.1,h3.1,Instr.sliceAt,Instr.slice,Va0 ht',Instr.sliceBounds,Instr.sliceBound,asIntOf,hi0,hi1]
   |some y=>
    simp only[Vaz]at hhi
    have h2:=hr.ev y;rw[hhi]at h2;simp only[RepS,Rep]at h2;simp[execOp,ho,h1.1,h2.1,h3.1,Instr.sliceAt,Instr.slice,Va0 ht',Instr.sliceBounds,Instr.sliceBound,asIntOf,hi0,hj0,hi2];intro h;omega
theorem Vln{P:Program}{o:Oper}{S:St}{t e:TypeId}{sz bt:Nat}{z:Option Value}{x:Operand}{lo hi:Option Operand}{l:List AV}{k k':IntKind}{i j:Int}(ho:o.op=.slice t x lo hi none)(hx:(S.ev x).toAV=some (.sl l))
  (hlo:Vaz S 0 k i lo) (hhi:Vaz S l.length k' j hi) (ht:Vbb P t=some e) (hti:Vak P e=some (sz,bt,z)):
  Sound P o S ⟨0<=i/\i<=j/\j<=l.length/\Uni sz l,.av (.sl ((l.drop i.toNat).take (j.toNat-i.toNat))),S⟩:=
 Sound.still λ⟨hi0,hi1,hi2,hu⟩ G w a hr=>by
  have h1:=(hr.ev x).toAV hx;simp only[Rep]at h1;obtain⟨ad,cap,es,sz',g1,g2,g3,g4,g5,g6,g7⟩:=h1
  have g3':=hu.sizes g2
  have ht':P.underlying t=some (.slice e):=by
   unfold Vbb at ht;split at ht
   ·rename_i hh;simp at ht;subst ht;exact hh
   ·simp at ht
  have hj0:0<=j:=by omega
  have hjc:j<=(cap:Int):=by omega
  have hij:i<=(j.toNat:Int):=by omega
  refine⟨.slice (if cap=i.toNat then ad else ad.map (·.add (i.toNat*sz))) (j.toNat-i.toNat) (cap-i.toNat),?_,?_⟩
  ·cases lo with
   | none=>
    simp only[Vaz]at hlo;subst hlo;cases hi with
    |none=>simp only[Vaz]at hhi;subst hhi;simp[execOp,ho,g1,Instr.sliceAt,Instr.slice,Va0 ht',Instr.sliceBounds,Vab hti]
    |some y=>
     simp only[Vaz]at hhi
     have h2:=hr.ev y;rw[hhi]at h2;simp only[RepS,Rep]at h2;simp[execOp,ho,g1,h2.1,Instr.sliceAt,Instr.slice,Va0 ht',Instr.sliceBounds,Instr.sliceBound,asIntOf,hj0,hjc,Vab hti]
   | some y'=>
    simp only[Vaz]at hlo
    have h3:=hr.ev y';rw[hlo]at h3;simp only[RepS,Rep]at h3;cases hi with
    |none=>
     simp only[Vaz]at hhi;subst hhi;simp[execOp,ho,g1,h3.1,Instr.sliceAt,Instr.slice,Va0 ht',Instr.sliceBounds,Instr.sliceBound,asIntOf,hi0,hi1,Vab hti]
    |some y=>
     simp only[Vaz]at hhi
     have h2:=hr.ev y;rw[hhi]at h2;simp only[RepS,Rep]at h2;simp[execOp,ho,g1,h2.1,h3.1,Instr.sliceAt,Instr.slice,Va0 ht',Instr.sliceBounds,Instr.sliceBound,asIntOf,hi0,hj0,hjc,Vab hti];intro h;omega
  ·simp only[RepS,Rep]
   have hlen:((l.drop i.toNat).take (j.toNat-i.toNat)).length=j.toNat-i.toNat:=by simp;omega
   have g2':=(g2.drop i.toNat).take (j.toNat-i.toNat);refine⟨_,_,(es.drop i.toNat).take (j.toNat-i.toNat),sz,by rw[hlen],g2',λe he=>g3' e (Zh (Zg he)),λhn=>?_,by rw[hlen];omega,λhne ad' hd=>?_,?_⟩
   ·cases ad with
    |none=>rw[g4 rfl];simp
    |some ad'=>split at hn <;>simp at hn
   ·cases ad with
    |none=>split at hd <;>simp at hd
    |some ad2=>
     have:=g6 (by rintro rfl;simp at hne) ad2 rfl;obtain⟨bb,oo,ss⟩:=ad2;simp only at this;subst this
     split at hd
     ·simp at hd;subst hd;rfl
     ·simp[Vba]at hd;subst hd;rfl
   ·by_cases hci:cap=i.toNat
    ·have h0:j.toNat-i.toNat=0:=by omega
     rw[h0];exact .inl (by simp[Va1])
    ·rw[if_neg hci];cases ad with
     |none=>rw[g4 rfl];exact .inl (by simp[Va1])
     |some ad2=>
      by_cases hle:l=[]
      ·subst hle;simp only[RepL]at g2;subst g2;exact .inl (by simp[Va1])
      have:=g6 hle ad2 rfl;obtain⟨bb,oo,ss⟩:=ad2;simp only at this;subst this;simp only[Zo,Vba];rw[Veg (sz:=sz) _ _ (λe he=>g3' e (Zh he)),Vge _ _ g3'];exact g7.sub _ _
def Vi9(P:Program):List Field->Option (List (Nat×Nat))
 |[]=>some []
 |f::l=>match P.info? f.type,Vi9 P l with
  |some i,some r=>some ((f.offset,i.size)::r)
  |_,_=>none
def Vf9(P:Program)(t:TypeId):Option (List (Nat×Nat)):=
 match P.underlying t with
 |some (.struct fs)=>Vi9 P fs.toList
 |_=>none
def Vmz(P:Program)(t:TypeId):Option (List (Nat×Nat)):=
 match P.underlying t with
 |some (.struct fs)=>Vi9 P fs.toList
 |some (.array n e)=>(P.info? e).map (λi=>(Yc n).map (λk=>(k*i.size,i.size)))
 |_=>none
theorem run_places{P:Program}(w:World):∀(fs:List Field)(r:List (Nat×Nat)),Vi9 P fs=some r->
  (fs.mapM (λf=>do pure (f.offset, <-sizeOf f.type)):Sem (List (Nat×Nat))).run P w=.ok r w
 |[],r,h=>by simp[Vi9]at h;subst h;simp
 | f::fs,r,h=>by
  simp only[Vi9]at h
  split at h
  ·rename_i i r' h1 h2;simp at h;subst h
   have ih:=run_places w fs r' h2
   have hs:(sizeOf f.type).run P w=.ok i.size w:=by simp[sizeOf,Vc8 h1]
   simp only[bind_pure_comp]at ih;simp[List.mapM_cons,hs,ih]
  ·simp at h
def aFill(pl:List (Nat×Nat)):List AV->List (Nat×AV)->Option (List AV)
 |cs,[]=>some cs
 |cs,(i,x)::rest=>match pl[i]? with
  |some (off,size)=>if x.cells.length=size/\off+size<=cs.length/\x.isTup=false then aFill pl (x.cells.zipIdx.foldl (λc (p:AV×Nat)=>c.set (off+p.2) p.1) cs) rest else none
  |none=>none
theorem Vj0{U:Nat->Nat}{w:World}(off:Nat):∀ {xs:List AV} {vs:List Value} (k:Nat) {cs:List AV} {us:List Value},RepL U w xs vs->RepL U w cs us->
  RepL U w ((xs.zipIdx k).foldl (λc (p:AV×Nat)=>c.set (off+p.2) p.1) cs) ((vs.zipIdx k).foldl (λc (p:Value×Nat)=>c.set (off+p.2) p.1) us)
 |[],vs,k,cs,us,h,h'=>by simp only[RepL]at h;subst h;simpa using h'
 |x::xs,vs,k,cs,us,h,h'=>by
  simp only[RepL]at h;obtain⟨u,vs',rfl,h2,h3⟩:=h;simp only[Yb,Yg];exact Vj0 off (k+1) h3 (h'.set _ h2)
theorem Vku{off:Nat}{p:Value->Prop}:∀(xs:List Value)(k:Nat)(cs:List Value),(∀x∈xs,p x)->(∀x∈cs,p x)->∀ x∈(xs.zipIdx k).foldl (λc (q:Value×Nat)=>c.set (off+q.2) q.1) cs,p x
 |[],_,_,_,h,x,hx=>by simp at hx;exact h x hx
 |y::xs,k,cs,h1,h2,x,hx=>by
  simp only[Yb,Yg]at hx;refine Vku xs (k+1) _ (λz hz=>h1 z (by simp[hz])) (λz hz=>?_) x hx;rcases List.mem_or_eq_of_mem_set hz with h|h
  ·exact h2 z h
  ·rw[h];exact h1 y ku
theorem Vif(off:Nat):∀(xs:List Value)(k:Nat)(cs:Array Value),((xs.zipIdx k).foldl (λc (p:Value×Nat)=>c.setIfInBounds (off+p.2) p.1) cs).toList=(xs.zipIdx k).foldl (λc (p:Value×Nat)=>c.set (off+p.2) p.1) cs.toList
 |[],_,_=>by simp
 |x::xs,k,cs=>by
  simp only[Yb,Yg];rw[Vif off xs (k+1)];simp
theorem Vg3{U:Nat->Nat}{w:World}(pl:List (Nat×Nat))(place:Nat->Option (Nat×Nat))(hpl:∀ i:Nat,pl[i]? =place i):∀(parts:List (Nat×AV))(vs:List (Nat×Value))(cs r:List AV)(us:Array Value),
  parts.map (·.1)=vs.map (·.1)->RepL U w (parts.map (·.2)) (vs.map (·.2))->RepL U w cs us.toList->(∀x∈us.toList,x.oneCell'=true)->aFill pl cs parts=some r->
  ∃us',Instr.fill place us vs=some us'/\RepL U w r us'.toList/\∀ x∈us'.toList,x.oneCell'=true
 |[],[],cs,r,us,_,_,h,h1,hr=>by simp[aFill]at hr;subst hr;exact⟨us,rfl,h,h1⟩
 |[],_::_,_,_,_,hm,_,_,_,_=>by simp at hm
 |_::_,[],_,_,_,hm,_,_,_,_=>by simp at hm
 | (i,x)::parts,(i',v)::vs,cs,r,us,hm,hx,h,h1,hr=>by
  simp only[Zu,List.cons.injEq]at hm;obtain⟨rfl,hm⟩:=hm;simp only[Zu,RepL,List.cons.injEq]at hx;obtain⟨u,us',⟨rfl,rfl⟩,h2,h3⟩:=hx;simp only[aFill]at hr
  split at hr
  ·rename_i off size hp
   split at hr
   ·rename_i hc;obtain⟨hc1,hc2,hc3⟩:=hc;obtain⟨g1,g2⟩:=h2.cells' hc3
    have hl:=g1.length
    have hcl:=h.length
    have hvs:v.cells.size=size:=by simpa[hc1]using hl
    have e1:=Vif off v.cells.toList 0 us
    have hfold:(v.cells.zipIdx.foldl (λcs (x:Value×Nat)=>cs.setIfInBounds (off+x.2) x.1) us)=((v.cells.toList.zipIdx 0).foldl (λc (p:Value×Nat)=>c.setIfInBounds (off+p.2) p.1) us):=by
     rw[<-Array.foldl_toList];simp
    obtain⟨us2,f1,f2,f3⟩:=Vg3 pl place hpl parts vs _ r (v.cells.zipIdx.foldl (λcs (x:Value×Nat)=>cs.setIfInBounds (off+x.2) x.1) us) hm h3
     (by rw[hfold,e1];exact Vj0 off 0 g1 h) (by rw[hfold,e1];exact Vku _ _ _ g2 h1) hr
    refine⟨us2,?_,f2,f3⟩;simp only[Instr.fill, <-hpl i,hp];rw[if_neg (by simp at hcl;simp;omega)];exact f1
   ·simp at hr
  ·simp at hr
def Vdz(S:St):List (Nat×Operand)->Option (List (Nat×AV))
 |[]=>some []
 |(i,x)::l=>match(S.ev x).toAV,Vdz S l with
  |some y,some r=>some ((i,y)::r)
  |_,_=>none
theorem Vep{G:Gh}{w:World}{S:St}{a:Act}(hr:Rel G w S a):∀ {l:List (Nat×Operand)} {r:List (Nat×AV)},Vdz S l=some r->
  r.map (·.1)=(l.map (λp=>(p.1,a.eval p.2))).map (·.1)/\RepL G.U w (r.map (·.2)) ((l.map (λp=>(p.1,a.eval p.2))).map (·.2))
 |[],r,h=>by simp[Vdz]at h;subst h;simp[RepL]
 |(i,x)::l,r,h=>by
  simp only[Vdz]at h
  split at h
  ·rename_i y r' h1 h2;simp at h;subst h;obtain⟨g1,g2⟩:=Vep hr h2;refine⟨by simp only[Zu];rw[g1],?_⟩;simp only[Zu,RepL];exact⟨_,_,rfl,(hr.ev x).toAV h1,g2⟩
  ·simp at h
theorem RepL_val{U:Nat->Nat}{w:World}:∀(l:List Value),(∀c∈l,c.oneCell'=true)->RepL U w (l.map .val) l
 |[],_=>by simp[RepL]
 |c::l,h=>by
  simp only[Zu,RepL];exact⟨c,l,rfl,by simp only[Rep];exact⟨trivial,h c ku⟩,RepL_val l (λx hx=>h x (by simp[hx]))⟩
theorem Vhe{p1 p2:Nat->Option (Nat×Nat)}(hp:∀ i q,p1 i=some q->p2 i=some q):∀(vs:List (Nat×Value))(cs r:Array Value),Instr.fill p1 cs vs=some r->Instr.fill p2 cs vs=some r
 |[],cs,r,h=>h
 | (i,v)::rest,cs,r,h=>by
  unfold Instr.fill at h ⊢
  split at h
  ·simp at h
  ·rename_i off size hq;rw[hp i _ hq];simp only
   split at h
   ·simp at h
   ·rename_i hc;rw[if_neg hc];exact Vhe hp rest _ r h
theorem sound_build{P:Program}{o:Oper}{S:St}{t:TypeId}{parts:Array (Nat×Operand)}{sz bt:Nat}{z:Value}{pl:List (Nat×Nat)}{ps:List (Nat×AV)}{r:List AV}(ho:o.op=.build t parts)(hi:Vak P t=some (sz,bt,some z))
  (h1:z.cells.toList.all (λc=>c.oneCell')=true) (hpl:Vmz P t=some pl) (hp:Vdz S parts.toList=some ps) (hf:aFill pl (z.cells.toList.map Vdi) ps=some r):Sound P o S ⟨True,.av (.agg r),S⟩:=
 Sound.still λ_ G w a hr=>by
  have h1':∀ x∈z.cells.toList,x.oneCell'=true:=λc hc=>Z0.1 h1 c hc
  obtain⟨g1,g2⟩:=Vep hr hp;unfold Vmz at hpl
  split at hpl
  ·rename_i fs hu;obtain⟨us',f1,f2,f3⟩:=Vg3 (U:=G.U) (w:=w) pl (λi=>pl[i]?) (λi=>rfl) ps _ _ r z.cells g1 g2 (Ved _ h1') h1' hf;refine⟨.agg us',?_,?_⟩
   ·have hm:=run_places w fs.toList pl hpl
    have hm2:(fs.mapM (λf=>do pure (f.offset, <-sizeOf f.type)):Sem (Array (Nat×Nat))).run P w=.ok pl.toArray w:=by
     rw[Array.mapM_eq_mapM_toList];simp only[Sem.run_map,hm,Result.andThen_ok]
    simp only[bind_pure_comp]at hm2
    have hl:(parts.map λ(x:Nat×Operand)=>(x.1,a.eval x.2)).toList=parts.toList.map (λp=>(p.1,a.eval p.2)):=by simp
    simp[execOp,ho,Instr.build,Vam hi,Va0 hu,hm2,f1]
   ·simp only[RepS,Rep];exact⟨us',rfl,f2,f3⟩
  ·rename_i n e hu;simp only[Zb]at hpl;obtain⟨inf,hinf,rfl⟩:=hpl;obtain⟨us',f1,f2,f3⟩:=Vg3 (U:=G.U) (w:=w) _ (λi=>((Yc n).map (λk=>(k*inf.size,inf.size)))[i]?) (λi=>rfl) ps _ _ r z.cells g1 g2 (Ved _ h1') h1' hf
   have f4:=Vhe (p2:=λi=>some (i*inf.size,inf.size)) (λi q hq=>by
    simp only[Zv,Zb]at hq;obtain⟨k,hk,rfl⟩:=hq;rw[List.getElem?_eq_some_iff]at hk;obtain⟨hk1,hk2⟩:=hk
    simp at hk2;subst hk2;rfl) _ _ _ f1
   refine⟨.agg us',?_,?_⟩
   ·have hs:(sizeOf e).run P w=.ok inf.size w:=by simp[sizeOf,Vc8 hinf]
    simp[execOp,ho,Instr.build,Vam hi,Va0 hu,hs,f4]
   ·simp only[RepS,Rep];exact⟨us',rfl,f2,f3⟩
  ·simp at hpl
def tArr(P:Program)(t:TypeId):Option (Nat×TypeId):=match P.underlying t with
 |some (.array n e)=>some (n,e)
 |_=>none
def arrElt(ag:Bool)(l:List AV)(off sz:Nat):AV:=match ag with
 |true=>.agg ((l.drop off).take sz)
 |false=>l.getD off (.val undef)
theorem Vk0{P:Program}{o:Oper}{S:St}{t e:TypeId}{n sz bt:Nat}{zz:Option Value}{x ix:Operand}{l:List AV}{k:IntKind}{i:Int}{ag:Bool}(ho:o.op=.index t x ix)(hx:S.ev x=.av (.agg l))(hix:S.ev ix=.av (.val (.int k i)))(ht:tArr P t=some (n,e))(hi:Vak P e=some (sz,bt,zz))(ha:tAgg P e=some ag):
  Sound P o S ⟨0<=i/\i<n/\i.toNat*sz+sz<=l.length/\0<sz,.av (arrElt ag l (i.toNat*sz) sz),S⟩:=
 Sound.still λ⟨hi0,hi1,hle,hsz⟩ G w a hr=>by
  have h1:=hr.ev x;rw[hx]at h1;simp only[RepS,Rep]at h1
  have h2:=hr.ev ix;rw[hix]at h2;simp only[RepS,Rep]at h2;obtain⟨us,hu,hl,h1c⟩:=h1
  have ht':P.underlying t=some (.array n e):=by
   unfold tArr at ht;split at ht
   ·rename_i h;simp only[Za,Zd]at ht;obtain⟨rfl,rfl⟩:=ht;exact h
   ·simp at ht
  have hlen:=hl.length;cases ag with
  | true=>
   refine⟨.agg (us.extract (i.toNat*sz) (i.toNat*sz+sz)),?_,?_⟩
   ·simp[execOp,ho,h2.1,hu,Instr.index,asIntOf,Va0 ht',Vab hi,hi0,hi1,part,Vd5 ha]
   ·simp only[RepS,arrElt,Rep]
    have e1:(us.extract (i.toNat*sz) (i.toNat*sz+sz)).toList=(us.toList.drop (i.toNat*sz)).take sz:=by
     simp[List.extract_eq_take_drop]
    refine⟨_,rfl,by rw[e1];exact(hl.drop _).take _,λy hy=>?_⟩;rw[e1]at hy;exact h1c y (Zh (Zg hy))
  | false=>
   have hlt:i.toNat*sz<l.length:=by omega
   obtain⟨u,hu1,hu2⟩:=hl.get (i.toNat*sz) (l.getD (i.toNat*sz) (.val undef)) (by simp[List.getD,List.getElem?_eq_getElem hlt]);refine⟨u,?_,?_⟩
   ·have hu3:us[i.toNat*sz]? =some u:=by simpa using hu1
    simp[execOp,ho,h2.1,hu,Instr.index,asIntOf,Va0 ht',Vab hi,hi0,hi1,part,Vd5 ha,hu3]
   ·simp only[RepS,arrElt];exact hu2
theorem Vob{G:Gh}{w:World}{S:St}{a:Act}(hr:Rel G w S a):∀ {l:List Operand} {ps:List PV},l.mapM (λx=>(S.ev x).toPV)=some ps->RepPs G w ps (l.map a.eval)
 |[],ps,h=>by simp at h;subst h;rfl
 |x::l,ps,h=>by
  simp only[List.mapM_cons,Option.bind_eq_bind,Option.bind_eq_some_iff]at h;obtain⟨p,h1,ps',h2,h3⟩:=h;simp at h3;subst h3;exact⟨_,_,rfl,(hr.ev x).toPV h1,Vob hr h2⟩
theorem Vlo{P:Program}{o:Oper}{S:St}{f:FuncId}{first captured:Array Operand}{fs cs:List PV}(ho:o.op=.makeFunc (.func f) first captured)(hf:first.toList.mapM (λx=>(S.ev x).toPV)=some fs)(hc:captured.toList.mapM (λx=>(S.ev x).toPV)=some cs):
  Sound P o S ⟨True,.fn f fs cs,S⟩:=
 Sound.still λ_ G w a hr=>by
  refine⟨.func (.func f) (first.map a.eval) (captured.map a.eval),by simp[execOp,ho,Instr.makeFunc],_,_,rfl,?_,?_⟩
  ·simpa using Vob hr hf
  ·simpa using Vob hr hc
theorem Vax{P:Program}{o:Oper}{a:Act}{b:Builtin}{args:Array Operand}{tys:Array TypeId}(ho:o.op=.call {callee:=.builtin b,args:=args,argTypes:=tys})(w:World):
  ∃c,(execOp a.eval o).run P w=(builtin b tys o.type c (args.map a.eval)).run P w:=
 ⟨_,by simp only[execOp,ho,resolve];rfl⟩
def Vg5(P:Program)(t:TypeId):Bool:=
 match P.underlying t with
 |some (.slice _)=>true
 |_=>false
theorem Vn6{P:Program}{o:Oper}{S:St}{x:Operand}{t:TypeId}{s:ByteArray}(ho:o.op=.call {callee:=.builtin .len,args:=#[x],argTypes:=#[t]})(hx:S.ev x=.av (.val (.string s)))(ht:tStr P t=true):Sound P o S ⟨True,.av (.val (.int .i64 s.size)),S⟩:=
 Sound.still λ_ G w a hr=>by
  have h1:=hr.ev x;rw[hx]at h1;simp only[RepS,Rep]at h1
  have ht':P.underlying t=some .string:=by
   unfold tStr at ht;split at ht
   ·assumption
   ·simp at ht
  obtain⟨c,hc⟩:=Vax (P:=P) (a:=a) ho w;exact⟨_,by rw[hc];simp[builtin,Builtin.len_,Va0 ht',h1.1,goInt],⟨rfl,rfl⟩⟩
theorem Voo{P:Program}{o:Oper}{S:St}{x:Operand}{t:TypeId}{l:List AV}(ho:o.op=.call {callee:=.builtin .len,args:=#[x],argTypes:=#[t]})(hx:(S.ev x).toAV=some (.sl l))(ht:Vg5 P t=true):Sound P o S ⟨True,.av (.val (.int .i64 l.length)),S⟩:=
 Sound.still λ_ G w a hr=>by
  have h1:=(hr.ev x).toAV hx;simp only[Rep]at h1;obtain⟨ad,cap,es,sz',g1,_⟩:=h1
  have⟨e,ht'⟩:∃ e,P.underlying t=some (.slice e):=by
   unfold Vg5 at ht;split at ht
   ·rename_i e h;exact⟨e,h⟩
   ·simp at ht
  obtain⟨c,hc⟩:=Vax (P:=P) (a:=a) ho w;exact⟨_,by rw[hc];simp[builtin,Builtin.len_,Va0 ht',g1,goInt],⟨rfl,rfl⟩⟩
theorem sound_max{P:Program}{o:Oper}{S:St}{x y:Operand}{tys:Array TypeId}{k:IntKind}{i j:Int}(ho:o.op=.call {callee:=.builtin .max,args:=#[x,y],argTypes:=tys})(hx:S.ev x=.av (.val (.int k i)))(hy:S.ev y=.av (.val (.int k j))):
  Sound P o S ⟨True,.av (.val (.int k (max i j))),S⟩:=
 Sound.still λ_ G w a hr=>by
  have h1:=hr.ev x;rw[hx]at h1;simp only[RepS,Rep]at h1
  have h2:=hr.ev y;rw[hy]at h2;simp only[RepS,Rep]at h2;obtain⟨c,hc⟩:=Vax (P:=P) (a:=a) ho w;refine⟨.int k (max i j),?_,⟨rfl,rfl⟩⟩;rw[hc]
  have:(if j>i then j else i)=max i j:=by split <;>omega
  simp[builtin,Builtin.max_,h1.1,h2.1,Builtin.max2,this]
theorem sound_max3{P:Program}{o:Oper}{S:St}{x y z:Operand}{tys:Array TypeId}{k:IntKind}{i j l:Int}(ho:o.op=.call {callee:=.builtin .max,args:=#[x,y,z],argTypes:=tys})(hx:S.ev x=.av (.val (.int k i)))(hy:S.ev y=.av (.val (.int k j)))(hz:S.ev z=.av (.val (.int k l))):
  Sound P o S ⟨True,.av (.val (.int k (max (max i j) l))),S⟩:=
 Sound.still λ_ G w a hr=>by
  have h1:=hr.ev x;rw[hx]at h1;simp only[RepS,Rep]at h1
  have h2:=hr.ev y;rw[hy]at h2;simp only[RepS,Rep]at h2
  have h3:=hr.ev z;rw[hz]at h3;simp only[RepS,Rep]at h3;obtain⟨c,hc⟩:=Vax (P:=P) (a:=a) ho w;refine⟨.int k (max (max i j) l),?_,⟨rfl,rfl⟩⟩;rw[hc]
  have e1:(if j>i then j else i)=max i j:=by split <;>omega
  have e2:(if l>max i j then l else max i j)=max (max i j) l:=by split <;>omega
  simp[builtin,Builtin.max_,h1.1,h2.1,h3.1,Builtin.max2,e1,e2]
theorem sound_min{P:Program}{o:Oper}{S:St}{x y:Operand}{tys:Array TypeId}{k:IntKind}{i j:Int}(ho:o.op=.call {callee:=.builtin .min,args:=#[x,y],argTypes:=tys})(hx:S.ev x=.av (.val (.int k i)))(hy:S.ev y=.av (.val (.int k j))):
  Sound P o S ⟨True,.av (.val (.int k (min i j))),S⟩:=
 Sound.still λ_ G w a hr=>by
  have h1:=hr.ev x;rw[hx]at h1;simp only[RepS,Rep]at h1
  have h2:=hr.ev y;rw[hy]at h2;simp only[RepS,Rep]at h2;obtain⟨c,hc⟩:=Vax (P:=P) (a:=a) ho w;refine⟨.int k (min i j),?_,⟨rfl,rfl⟩⟩;rw[hc]
  have:(if j<i then j else i)=min i j:=by split <;>omega
  simp[builtin,Builtin.min_,h1.1,h2.1,Builtin.min2,this]
theorem foldset_mid{α:Type}:∀(xs:List α)(k:Nat)(pre rest:List α),xs.length<=rest.length->k=0->
  (xs.zipIdx k).foldl (λc (p:α×Nat)=>c.set (pre.length+p.2) p.1) (pre++rest)=pre++xs++rest.drop xs.length:=by
 have key:∀(xs:List α)(k off:Nat)(pre rest:List α),xs.length<=rest.length->off+k=pre.length->
   (xs.zipIdx k).foldl (λc (p:α×Nat)=>c.set (off+p.2) p.1) (pre++rest)=pre++xs++rest.drop xs.length:=by
  intro xs
  induction xs with
  |nil=>intro k off pre rest _ _;simp
  | cons x xs ih=>
   intro k off pre rest h1 h2;cases rest with
   |nil=>simp at h1
   | cons r rest=>
    simp only[Yb,Yg]
    have e1:(pre++r::rest).set (off+k) x=(pre++[x])++rest:=by
     rw[h2,List.set_append_right _ _ (Nat.le_refl _)];simp
    rw[e1,ih (k+1) off (pre++[x]) rest (by simp at h1;omega) (by simp;omega)];simp
 intro xs k pre rest h1 hk;subst hk;exact key xs 0 pre.length pre rest h1 kv
theorem fill_row(sz:Nat):∀(vs:List Value)(k:Nat)(us:Array Value)(pre rest:List Value),us.toList=pre++rest->pre.length=k*sz->(∀v∈vs,v.cells.size=sz)->rest.length=vs.length*sz->
  ∃us',Instr.fill (λi=>some (i*sz,sz)) us ((vs.zipIdx k).map (λp=>(p.2,p.1)))=some us'/\us'.toList=pre++Va1 vs
 |[],k,us,pre,rest,h,_,_,hr=>by
  simp at hr;subst hr;exact⟨us,rfl,by simpa[Va1]using h⟩
 | v::vs,k,us,pre,rest,h,hp,hs,hr=>by
  have hv:=hs v ku
  have hus:us.size=k*sz+(vs.length+1)*sz:=by
   have:=congrArg Z7 h;simp only[Zc,Zj,hp,hr,List.length_cons]at this;exact this
  have hmul:(vs.length+1)*sz=vs.length*sz+sz:=Zp _ _
  have e1:=Vif (k*sz) v.cells.toList 0 us;rw[h, <-hp,foldset_mid v.cells.toList 0 pre rest (by simp only[Zc,hv,hr,List.length_cons];omega) rfl,hp]at e1
  have hfold:(v.cells.zipIdx.foldl (λcs (x:Value×Nat)=>cs.setIfInBounds (k*sz+x.2) x.1) us)=((v.cells.toList.zipIdx 0).foldl (λc (p:Value×Nat)=>c.setIfInBounds (k*sz+p.2) p.1) us):=by
   rw[<-Array.foldl_toList];simp
  obtain⟨us',f1,f2⟩:=fill_row sz vs (k+1) (v.cells.zipIdx.foldl (λcs (x:Value×Nat)=>cs.setIfInBounds (k*sz+x.2) x.1) us) (pre++v.cells.toList) (rest.drop v.cells.toList.length)
   (by rw[hfold,e1]) (by simp only[Zj,hp,Zc,hv,Zp]) (λx hx=>hs x (by simp[hx])) (by simp only[Yd,hr,Zc,hv,List.length_cons];omega)
  refine⟨us',?_,by rw[f2];simp[Va1]⟩;simp only[Yb,Zu,Instr.fill];rw[if_neg (by simp only[hv,ne_eq,not_true_eq_false,decide_false,Bool.false_or,decide_eq_true_eq];omega)];exact f1
def Vcw(S:St):List Operand->Option (List AV)
 |[]=>some []
 |x::l=>match(S.ev x).toAV,Vcw S l with
  |some y,some r=>some (y::r)
  |_,_=>none
theorem Vhl{G:Gh}{w:World}{S:St}{a:Act}(hr:Rel G w S a):∀ {l:List Operand} {r:List AV},Vcw S l=some r->RepL G.U w r (l.map a.eval)
 |[],r,h=>by simp[Vcw]at h;subst h;simp[RepL]
 |x::l,r,h=>by
  simp only[Vcw]at h
  split at h
  ·rename_i y r' h1 h2;simp at h;subst h;simp only[Zu,RepL];exact⟨_,_,rfl,(hr.ev x).toAV h1,Vhl hr h2⟩
  ·simp at h
theorem Vhr{w:World}{cs rest:List Value}{e:TypeId}{n:Nat}(U:Nat->Nat)(h1:∀ x∈cs,x.oneCell'=true)(hn:n=cs.length):
  Lies (λi=>if i=w.heap.size then n else U i) (w.alloc (.cells (cs++rest).toArray e)) (some ⟨w.heap.size,0,none⟩) cs:=by
 by_cases hz:cs=[]
 ·exact .inl hz
 ·refine .inr ⟨w.heap.size,0,rfl,by simp[hn],λj x hx=>⟨?_,h1 x (Zs hx)⟩⟩
  have hj:j<cs.length:=by
   rcases Zr j cs.length with h|h
   ·exact h
   ·simp[Zf h]at hx
  simp only[World.cell?,Vat];simp[Zm hj,hx]
theorem RepL.cells{U:Nat->Nat}{w:World}{sz:Nat}:∀ {l:List AV} {es:List Value},RepL U w l es->Uni sz l->∀ c∈Va1 es,c.oneCell'=true
 |[],es,h,_,c,hc=>by simp only[RepL]at h;subst h;simp[Va1]at hc
 |x::l,es,h,hu,c,hc=>by
  simp only[RepL]at h;obtain⟨u,es',rfl,h2,h3⟩:=h;simp only[Va1,Zi,Ze]at hc;rcases hc with hc|hc
  ·exact(h2.cells' (hu x ku).2).2 c hc
  ·exact RepL.cells h3 (λy hy=>hu y (by simp[hy])) c hc
theorem Vg6{P:Program}{o:Oper}{S:St}{t e:TypeId}{n:Nat}{parts:Array (Nat×Operand)}{sz bt:Nat}{z:Value}{ps:List AV}(ho:o.op=.buildSlice t n parts)(ht:Vbb P t=some e)(hi:Vak P e=some (sz,bt,some z))
  (hidx:parts.toList.map (·.1)=Yc n) (hp:Vcw S (parts.toList.map (·.2))=some ps) (hu:Uni sz ps) (hsz:n*sz<=16777216):Sound P o S ⟨True,.clo ps,S⟩:=by
 intro _ G w a hr
 have h1:=Vhl hr hp;generalize hes:(parts.toList.map (·.2)).map a.eval=es at h1
 have h2:=hu.sizes h1
 have h3:=h1.cells hu
 have hlen:es.length=n:=by
  have:=congrArg Z7 hidx;simp at this;rw[<-hes];simp[this]
 have hpart:(parts.map λ(x:Nat×Operand)=>(x.1,a.eval x.2)).toList=(es.zipIdx 0).map (λp=>(p.2,p.1)):=by
  rw[<-hes];apply List.ext_getElem?;intro i
  have hi':(parts.toList.map (·.1))[i]? =(Yc n)[i]? :=by rw[hidx]
  simp only[Array.toList_map,Zv,List.getElem?_zipIdx,List.map_map]at hi' ⊢;cases hp:parts.toList[i]? with
  |none=>simp
  | some q=>
   simp only[hp,Zo]at hi'
   have hlt:i<(Yc n).length:=by
    rcases Zr i (Yc n).length with h|h
    ·exact h
    ·simp[Zf h]at hi'
   rw[List.getElem?_eq_getElem hlt]at hi';simp at hi';simp[hi']
 have ht':P.underlying t=some (.slice e):=by
  unfold Vbb at ht;split at ht
  ·rename_i hh;simp at ht;subst ht;exact hh
  ·simp at ht
 have key:∀ us:Array Value,us.size=n*sz->Instr.fill (λi=>some (i*sz,sz)) us ((es.zipIdx 0).map (λp=>(p.2,p.1)))=some (Va1 es).toArray:=by
  intro us hus;obtain⟨us',f1,f2⟩:=fill_row sz es 0 us [] us.toList ku ku h2 (by rw[hlen];simpa using hus);rw[f1];simp only[List.nil_append]at f2;rw[<-f2]
 obtain⟨s1,s2,s3⟩:=Ve5 hr.wf (.cells (Va1 es++[]).toArray e) (Va1 es).length;refine⟨_,.slice (some ⟨w.heap.size,0,none⟩) n n,w.alloc (.cells (Va1 es++[]).toArray e),G.setU w.heap.size (Va1 es).length,?_,.inl rfl,s1,hr.keep s1.toExt s2 (λκ _=>s3 κ) rfl,?_,λ_ _=>rfl⟩
 ·have hle:¬ n*sz>2 ^ 24:=by omega
  by_cases h0:n*sz=0
  ·simp only[execOp,ho,Instr.buildSlice,Sem.run_bind,Va0 ht',Result.andThen_ok,Vab hi,if_neg hle,if_pos h0,Sem.run_pure,hpart,key _ (show((Array.range (n*sz)).map (λi=>(#[]:Array Value)[i%(#[]:Array Value).size]!)).size=n*sz by simp)];simp[newRow]
  ·simp only[execOp,ho,Instr.buildSlice,Sem.run_bind,Va0 ht',Result.andThen_ok,Vab hi,if_neg hle,if_neg h0,Sem.run_pure,Vam hi,hpart,key _ (show((Array.range (n*sz)).map (λi=>z.cells[i%z.cells.size]!)).size=n*sz by simp)];simp[newRow]
 ·have hlp:ps.length=n:=by rw[<-h1.length];exact hlen
  refine⟨⟨w.heap.size,0,by rw[hlp]⟩,?_⟩;simp only[Rep];refine⟨_,n,es,sz,by rw[hlp],RepL.mono s1.U s1.imm _ _ h1,h2,by simp,by omega,by simp,?_⟩;exact Vhr G.U h3 rfl
theorem Vj2{P:Program}{o:Oper}{S:St}{t e:TypeId}{n:Nat}{parts:Array (Nat×Operand)}{sz bt:Nat}{z:Value}{ps:List AV}(ho:o.op=.buildSlice t n parts)(ht:Vbb P t=some e)(hi:Vak P e=some (sz,bt,some z))
  (hidx:parts.toList.map (·.1)=Yc n) (hp:Vcw S (parts.toList.map (·.2))=some ps) (hu:Uni sz ps) (hsz:n*sz<=16777216):Sound P o S ⟨True,.av (.sl ps),S⟩:=by
 intro hok G w a hr;obtain⟨nx,v,w',G',e1,e2,e3,e4,e5,e6⟩:=Vg6 ho ht hi hidx hp hu hsz hok G w a hr;exact⟨nx,v,w',G',e1,e2,e3,e4,e5.2,e6⟩
end Go.Eng
namespace Go.Eng
def Vdr(P:Program)(t:TypeId):Bool:=
 match P.underlying t with
 |some (.slice _)=>true
 |some .string=>true
 |_=>false
theorem Vib{P:Program}{t:TypeId}(h:Vdr P t=true):(∃e,P.underlying t=some (.slice e))\/P.underlying t=some .string:=by
 unfold Vdr at h
 split at h
 ·rename_i hh;exact .inl ⟨_,hh⟩
 ·rename_i hh;exact .inr hh
 ·simp at h
section
variable {P:Program} {t t2 ty e:TypeId} {sz bt:Nat} {z:Value}
theorem Vbi(ht:Vbb P t=some e)(h2:Vdr P t2=true)(hi:Vak P e=some (sz,bt,some z)){w:World}{b off n cap m:Nat}{x:Value}{news:List Value}(hl:(Builtin.lenOf x).run P w=.ok m w)
  (hf:(Builtin.firstCells sz m x).run P w=.ok news.toArray w) (hle:n+m<=cap) {w':World} (hs:(storeCells ⟨b,off+n*sz,none⟩ news).run P w=.ok () w'):
  (Builtin.append_ #[t,t2] ty #[.slice (some ⟨b,off,none⟩) n cap,x]).run P w=.ok (.slice (some ⟨b,off,none⟩) (n+m) cap) w':=by
 have ht':P.underlying t=some (.slice e):=by
  unfold Vbb at ht;split at ht
  ·rename_i hh;simp at ht;subst ht;exact hh
  ·simp at ht
 rcases Vib h2 with⟨_,hd1⟩|hd1 <;>simp[Builtin.append_,Va0 ht',Vab hi,Va0 hd1,hl,hle,hf,Vba,hs]
theorem Vff(ht:Vbb P t=some e)(h2:Vdr P t2=true)(hi:Vak P e=some (sz,bt,some z)){w:World}{x:Value}(hl:(Builtin.lenOf x).run P w=.ok 0 w){news:List Value}
  (hf:(Builtin.firstCells sz 0 x).run P w=.ok news.toArray w):
  (Builtin.append_ #[t,t2] ty #[.slice none 0 0,x]).run P w=.ok (.slice none 0 0) w:=by
 have ht':P.underlying t=some (.slice e):=by
  unfold Vbb at ht;split at ht
  ·rename_i hh;simp at ht;subst ht;exact hh
  ·simp at ht
 rcases Vib h2 with⟨_,hd1⟩|hd1 <;>simp[Builtin.append_,Va0 ht',Vab hi,Va0 hd1,hl,hf]
theorem Vc9(ht:Vbb P t=some e)(h2:Vdr P t2=true)(hi:Vak P e=some (sz,bt,some z))(hz:z.cells.size=sz)(hbt:0<bt){w:World}{a:Option Addr}{n cap m:Nat}{x:Value}{olds news:List Value}
  (hl:(Builtin.lenOf x).run P w=.ok m w) (ho:∀ w',w'.heap=w.heap->(Builtin.firstCells sz n (.slice a n cap)).run P w'=.ok olds.toArray w')
  (hf:∀ w',w'.heap=w.heap->(Builtin.firstCells sz m x).run P w'=.ok news.toArray w') (hlt:cap<n+m) (hb:(n+m)*bt<=140737488355328):
  ∃newCap rest,n+m<=newCap/\rest.length=(newCap-(n+m))*sz/\
   (Builtin.append_ #[t,t2] ty #[.slice a n cap,x]).run P w=.ok (.slice (some ⟨w.heap.size,0,none⟩) (n+m) newCap) (w.drew.alloc (.cells (olds++news++rest).toArray e)):=by
 have ht':P.underlying t=some (.slice e):=by
  unfold Vbb at ht;split at ht
  ·rename_i hh;simp at ht;subst ht;exact hh
  ·simp at ht
 have hfit:=growslice_fits hlt hb
 have hii:=hi;simp only[Vak,Zb,Zd]at hii;obtain⟨i,i1,i2,i3,i4⟩:=hii
 have hnle:¬ n+m<=cap:=by omega
 have hforced:(Question.appendCap (n+m) cap e).forced=false:=rfl
 have e1:=ho w.drew rfl
 have e2:=hf w.drew rfl;refine⟨(Question.appendCap (n+m) cap e).cut (w.tape w.drawn (.appendCap (n+m) cap e)),(Builtin.zeroCells z.cells ((Question.appendCap (n+m) cap e).cut (w.tape w.drawn (.appendCap (n+m) cap e))-(n+m))).toList,?_,?_,?_⟩
 ·simp only[Question.cut];omega
 ·simp[Builtin.zeroCells,hz]
 ·have hbz:¬ (i.bytes=0):=by omega
  have hfit':¬ Builtin.nextslicecap (n+m) cap*i.bytes>2 ^ 48:=by rw[i3];omega
  rcases Vib h2 with⟨_,hd1⟩|hd1 <;>simp[Builtin.append_,Va0 ht',Vab hi,Va0 hd1,hl,hnle,Vc8 i1,hbz,hfit',hforced,e1,e2,Vam hi,newRow] <;>(generalize Builtin.zeroCells _ _=zc;congr 2;apply Array.ext';simp)
end
structure Src (P:Program) (w:World) (U:Nat->Nat) (sz:Nat) (x:Value) (l:List AV) (es:List Value):Prop where
 rep:RepL U w l es
 len:∀ w',w'.heap=w.heap->(Builtin.lenOf x).run P w'=.ok l.length w'
 cells:∀ w',w'.heap=w.heap->(Builtin.firstCells sz l.length x).run P w'=.ok (Va1 es).toArray w'
theorem Vq7{w w':World}(h:w'.heap=w.heap)(a:Addr):w'.cell? a=w.cell? a:=by simp only[World.cell?,h]
theorem Vcz{P:Program}{w:World}{U:Nat->Nat}{a:Option Addr}{es:List Value}{sz n cap len:Nat}(h:Lies U w a (Va1 es))(hs:∀ e∈es,e.cells.size=sz)(hn:es.length=n)(h0:a=none->es=[])(w':World)(hw:w'.heap=w.heap):
  (Builtin.firstCells sz n (.slice a len cap)).run P w'=.ok (Va1 es).toArray w':=by
 have hl:=Vac es hs;cases a with
 |none=>rw[h0 rfl];simp[Builtin.firstCells,Va1]
 |some ad=>
  refine run_firstCells_some w' sz n ad len cap (Va1 es) (by rw[hl,hn]) (λj v hj=>?_);rcases h with h|⟨b',off',h1,h2,h3⟩
  ·rw[h]at hj;simp at hj
  ·simp at h1;subst h1;rw[Vba,Vq7 hw];exact(h3 j v hj).1
theorem src_sl{P:Program}{G:Gh}{w:World}{sz:Nat}{x:Value}{l:List AV}(h:Rep G.U w (.sl l) x)(hu:Uni sz l):∃ es,Src P w G.U sz x l es:=by
 simp only[Rep]at h;obtain⟨a,cap,es,sz',rfl,h2,h3,h4,h5,h6,h7⟩:=h;refine⟨es,h2,λw' _=>by simp[Builtin.lenOf],λw' hw=>Vcz h7 (hu.sizes h2) h2.length h4 w' hw⟩
def Va8(s:ByteArray):List AV:=s.data.toList.map (λb=>.val (.int .u8 b.toNat))
theorem Vms{U:Nat->Nat}{w:World}:∀(l:List UInt8),RepL U w (l.map (λb=>AV.val (.int .u8 b.toNat))) (l.map (λb=>Value.int .u8 b.toNat))
 |[]=>by simp[RepL]
 |b::l=>by
  simp only[Zu,RepL];exact⟨_,_,rfl,by simp[Rep,Value.oneCell'],Vms l⟩
theorem Vd3:∀(l:List Value),(∀v∈l,v.cells=#[v])->Va1 l=l
 |[],_=>rfl
 |v::l,h=>by
  have:=Vd3 l (λx hx=>h x (by simp[hx]));simp only[Va1,Zi,h v ku]at this ⊢;simpa using this
theorem src_str{P:Program}{G:Gh}{w:World}(s:ByteArray):∃ es,Src P w G.U 1 (.string s) (Va8 s) es:=by
 refine⟨s.data.toList.map (λb=>Value.int .u8 b.toNat),Vms _,λw' _=>?_,λw' _=>?_⟩
 ·simp[Builtin.lenOf,Va8]
 ·rw[Vd3 _ (λv hv=>by simp at hv;obtain⟨b,_,rfl⟩:=hv;rfl)]
  have:(Va8 s).length=s.size:=by simp[Va8]
  rw[this];simp only[Builtin.firstCells,ByteArray.extract_zero_size];simp;apply Array.ext';simp
def Gh.next(G:Gh)(k:Key)(b:Nat):Gh:={G with ow:=λκ=>if κ=k then some b else G.ow κ,gen:=λκ=>if κ=k then G.gen κ+1 else G.gen κ}
def Vfp(k:Key)(l:List (Key×Nat)):List (Key×Nat):=l.filter (λp=> !(k==p.1))
theorem Vg9{k κ:Key}(h:κ≠k)(l:List (Key×Nat)):(Vfp k l).lookup κ=l.lookup κ:=by
 induction l with
 |nil=>rfl
 | cons p l ih=>
  obtain⟨k',g⟩:=p;simp only[Vfp,List.filter_cons]at ih ⊢
  by_cases hk:k=k'
  ·subst hk;simp only[beq_self_eq_true,Bool.not_true,Z6,if_false]
   have:(κ==k)=false:=by simpa using h
   rw[ih,List.lookup_cons,this]
  ·have:(k==k')=false:=by simpa using hk
   simp only[this,Bool.not_false,if_true,List.lookup_cons,ih]
def St.next(S:St)(k:Key):St:={S with gn:=(k,S.gen k+1)::Vfp k S.gn}
theorem Veq{G:Gh}{S:St}(h:∀ k:Key,G.gen k=S.gen k)(k:Key)(b:Nat):∀ κ:Key,(G.next k b).gen κ=(S.next k).gen κ:=by
 intro κ;simp only[Gh.next,St.next,St.gen,List.lookup_cons]
 by_cases hk:κ=k
 ·subst hk;simp;exact h κ
 ·have:(κ==k)=false:=by simpa using hk
  simp only[this,if_neg hk,Vg9 hk];exact h κ
theorem Rel.nextTok{G G':Gh}{w w':World}{S:St}{a:Act}{k:Key}(h:Rel G w S a)(he:Ext G w G' w')(hw:Wf G' w')(hk:∀ κ:Key,κ.2=0->Keep G w G' w' κ)(hg:∀ κ:Key,G'.gen κ=(S.next k).gen κ):Rel G' w' (S.next k) a:=
 ⟨hw,h.size,λt s ht=>(h.fr t s ht).persist he (λκ hκ=>(hk κ (s.keys_zero κ hκ)).1),
  λp hp=>(h.bx p hp).persist he (hk _ rfl) (λκ hκ=>by
   simp only[Zt]at hκ;obtain⟨s,_,hs⟩:=hκ
   exact(hk κ (s.keys_zero κ hs)).1),hg,h.defers.trans he.df.symm⟩
theorem step_tok{G:Gh}{w:World}(hw:Wf G w)(o:Obj){k:Key}(hk0:0<k.2)(n:Nat):
  Step G w ((G.setU w.heap.size n).next k w.heap.size) (w.drew.alloc o)/\Wf ((G.setU w.heap.size n).next k w.heap.size) (w.drew.alloc o)/\
   ∀κ,κ≠k->Keep G w ((G.setU w.heap.size n).next k w.heap.size) (w.drew.alloc o) κ:=by
 have hwd:Wf G w.drew:=⟨hw.inj,hw.lt,hw.zero⟩
 obtain⟨s1,s2,s3⟩:=Ve5 hwd o n
 have how:∀ κ b,(if κ=k then some w.heap.size else G.ow κ)=some b->(κ=k/\b=w.heap.size)\/(κ≠k/\G.ow κ=some b):=by
  intro κ b h
  split at h
  ·rename_i hk;simp at h;exact .inl ⟨hk,h.symm⟩
  ·rename_i hk;exact .inr ⟨hk,h⟩
 have hkp:∀ κ,κ≠k->Keep G w ((G.setU w.heap.size n).next k w.heap.size) (w.drew.alloc o) κ:=λκ hκ=>⟨by simp only[Gh.next];rw[if_neg hκ];rfl,λb hb=>(s3 κ).2 b hb⟩
 refine⟨⟨⟨s1.U,⟨s1.imm.cell,s1.imm.map,s1.imm.typ,s1.imm.frz,s1.imm.pln⟩,s1.size,s1.os,s1.tape,s1.output,s1.cp,λκ=>?_,λκ _ hg=>?_⟩,s1.stay,λκ b h=>?_⟩,⟨λκ κ' b h h'=>?_,λκ b h=>?_,s2.zero⟩,hkp⟩
 ·simp only[Gh.next,Gh.setU];split <;>omega
 ·refine hkp κ (λe=>?_);simp only[Gh.next,Gh.setU,if_pos e]at hg;omega
 ·rcases how κ b h with⟨_,rfl⟩|⟨_,h1⟩
  ·exact .inr (Nat.le_refl _)
  ·exact .inl ⟨κ,h1⟩
 ·rcases how κ b h with⟨h1,h2⟩|⟨h1,h2⟩ <;>rcases how κ' b h' with⟨h3,h4⟩|⟨h3,h4⟩
  ·rw[h1,h3]
  ·have:=hw.lt κ' b h4;omega
  ·have:=hw.lt κ b h2;omega
  ·exact hw.inj κ κ' b h2 h4
 ·rcases how κ b h with⟨_,rfl⟩|⟨_,h1⟩
  ·simp
  ·have:=hw.lt κ b h1;simp;omega
theorem Voj{G:Gh}{w:World}(hw:Wf G w){k:Key}(hk0:0<k.2){b:Nat}{arr:Array Value}{e:TypeId}(ho:G.ow k=some b)(hh:w.heap[b]? =some (.cells arr e (0,0)))(n:Nat)(hn:G.U b<=n)(arr':Array Value)(hsame:∀ j,j<G.U b->arr'[j]? =arr[j]?):
  Step G w ((G.setU b n).next k b) (w.setRow b arr')/\Wf ((G.setU b n).next k b) (w.setRow b arr')/\∀ κ,κ≠k->Keep G w ((G.setU b n).next k b) (w.setRow b arr') κ:=by
 have hoth:∀ i,i≠b->(w.setRow b arr').heap[i]? =w.heap[i]? :=λi hi=>setRow_other w b i arr' hi
 have hblt:=hw.lt k b ho
 have hkp:∀ κ,κ≠k->Keep G w ((G.setU b n).next k b) (w.setRow b arr') κ:=λκ hκ=>⟨by simp only[Gh.next];rw[if_neg hκ];rfl,λi hi=>by
  have hne:i≠b:=λhe=>hκ (hw.inj κ k b (he ▸ hi) ho)
  exact⟨hoth i hne,by simp only[Gh.next,Gh.setU];rw[if_neg hne]⟩⟩
 have how:∀ κ c,((G.setU b n).next k b).ow κ=some c->G.ow κ=some c:=by
  intro κ c h;simp only[Gh.next,Gh.setU]at h
  split at h
  ·rename_i hk;simp at h;subst h hk;exact ho
  ·exact h
 refine⟨⟨⟨λi=>?_,⟨λi o hi=>?_,λi es cl hi hi2=>?_,λi e2 hi hi2=>?_,λi o n hi hn hh2=>?_,λi e2 hi h5 hi2=>?_⟩,by simp,rfl,rfl,rfl,λ_ _=>rfl,λκ=>?_,λκ _ hg=>?_⟩,λi hi hn'=>⟨hoth i (λhe=>hn' k (he ▸ ho)),?_⟩,λκ b h=>.inl ⟨κ,how κ b h⟩⟩,⟨λκ κ' c h h'=>hw.inj κ κ' c (how κ c h) (how κ' c h'),λκ c h=>by simpa using hw.lt κ c (how κ c h),λi hi=>?_⟩,hkp⟩
 ·simp only[Gh.next,Gh.setU];split
  ·rename_i h;rw[h];exact hn
  ·omega
 ·by_cases hib:i=b
  ·subst hib;simp only[World.cell?,setRow_heap w i arr arr' e _ hh,hh];simpa using hsame o hi
  ·exact cell_of_heap (hoth i hib) o
 ·have:i≠b:=by intro he;subst he;rw[hh]at hi2;simp at hi2
  rw[hoth i this];exact hi2
 ·obtain⟨arr2,m2,q⟩:=hi2
  by_cases hib:i=b
  ·subst hib;rw[hh]at q;simp only[Za,Obj.cells.injEq]at q;obtain⟨_,rfl,_⟩:=q;exact⟨arr',(0,0),setRow_heap w i arr arr' e _ hh⟩
  ·exact⟨arr2,m2,by rw[hoth i hib];exact q⟩
 ·obtain⟨arr2,e2,lo,hi',q,q1,q2⟩:=hh2
  by_cases hib:i=b
  ·subst hib;rw[hh]at q;simp only[Za,Obj.cells.injEq,Zd]at q;obtain⟨_,_,rfl,rfl⟩:=q;omega
  ·exact⟨arr2,e2,lo,hi',by rw[hoth i hib];exact q,q1,q2⟩
 ·obtain⟨arr2,q⟩:=hi2
  by_cases hib:i=b
  ·subst hib;rw[hh]at q;simp only[Za,Obj.cells.injEq]at q;obtain⟨_,rfl,_⟩:=q;exact⟨arr',setRow_heap w i arr arr' e _ hh⟩
  ·exact⟨arr2,by rw[hoth i hib];exact q⟩
 ·simp only[Gh.next,Gh.setU];split <;>omega
 ·refine hkp κ (λe=>?_);simp only[Gh.next,Gh.setU,if_pos e]at hg;omega
 ·simp only[Gh.next,Gh.setU];rw[if_neg (λ(he:i=b)=>hn' k (he ▸ ho))]
 ·simp at hi;simp only[Gh.next,Gh.setU];rw[if_neg kv];exact hw.zero i hi
theorem step_gen{G:Gh}{w:World}(hw:Wf G w){k:Key}:Step G w {G with gen:=λκ=>if κ=k then G.gen κ+1 else G.gen κ} w/\Wf {G with gen:=λκ=>if κ=k then G.gen κ+1 else G.gen κ} w/\∀ κ,Keep G w {G with gen:=λκ=>if κ=k then G.gen κ+1 else G.gen κ} w κ:=by
 have hkp:∀ κ,Keep G w {G with gen:=λκ=>if κ=k then G.gen κ+1 else G.gen κ} w κ:=λκ=>⟨rfl,λ_ _=>⟨rfl,rfl⟩⟩
 refine⟨⟨⟨λ_=>Nat.le_refl _,Imm.refl _ _,Nat.le_refl _,rfl,rfl,rfl,λ_ _=>rfl,λκ=>?_,λκ _ _=>hkp κ⟩,λ_ _ _=>⟨rfl,rfl⟩,λκ b h=>.inl ⟨κ,h⟩⟩,⟨hw.inj,hw.lt,hw.zero⟩,hkp⟩;simp only;split <;>omega
theorem Vml{P:Program}{t t2 ty e:TypeId}{sz bt:Nat}{z:Value}(ht:Vbb P t=some e)(h2:Vdr P t2=true)(hi:Vak P e=some (sz,bt,some z))(hz:z.cells.size=sz)(hbt:0<bt)
  {G:Gh} {w:World} {S:St} {a:Act} {k:Key} {g:Nat} {l l':List AV} {u x:Value} {es':List Value} (hr:Rel G w S a) (hown:RepS G w (.own k g sz l) u) (hke:e+1=k.2) (hgen:S.gen k=g) (hx:Src P w G.U sz x l' es') (hu:Uni sz l')
  (hb:(l.length+l'.length)*bt<=140737488355328):
  ∃v w' G',(Builtin.append_ #[t,t2] ty #[u,x]).run P w=.ok v w'/\Step G w G' w'/\Rel G' w' (S.next k) a/\RepS G' w' (.own k (g+1) sz (l++l')) v/\∀ i,G'.ow (i,0)=G.ow (i,0):=by
 obtain⟨hk0,hgle,ad,cap,es,rfl,g2,g3,g4,gn,gsp,g5,g6⟩:=hown
 have hgg:G.gen k=g:=by rw[hr.gn k];exact hgen
 have g6:=g6 hgg
 have hes':=hu.sizes hx.rep
 have h1':=hx.rep.cells hu
 have hkne:∀ i:Nat,((i,0):Key)≠k:=by intro i he;rw[<-he]at hk0;simp at hk0
 have hk2:∀ κ:Key,κ.2=0->κ≠k:=by intro κ h0 he;rw[he]at h0;omega
 have hl1:=Vac es g3
 have hl2:=Vac es' hes'
 have hll:=g2.length
 have hll':=hx.rep.length
 have hcellsOld:∀ c∈Va1 es,c.oneCell'=true:=by
  rcases g5 with h|⟨_,_,_,_,h3⟩
  ·rw[h];simp
  ·intro c hc;obtain⟨j,hj⟩:=List.mem_iff_getElem?.1 hc;exact(h3 j c hj).2
 have hsz:∀ e∈es++es',e.cells.size=sz:=by
  intro e he;rcases Ze.1 he with h|h
  ·exact g3 e h
  ·exact hes' e h
 have grow:cap<l.length+l'.length->(ad=none->es=[])->(∀d,ad=some d->d.spot=none)->
   ∃v w' G',(Builtin.append_ #[t,t2] ty #[.slice ad l.length cap,x]).run P w=.ok v w'/\Step G w G' w'/\Rel G' w' (S.next k) a/\RepS G' w' (.own k (g+1) sz (l++l')) v/\∀ i,G'.ow (i,0)=G.ow (i,0):=by
  intro hlt hn hsp;obtain⟨nc,rest,q1,q2,q3⟩:=Vc9 (ty:=ty) ht h2 hi hz hbt (w:=w) (a:=ad) (n:=l.length) (cap:=cap) (m:=l'.length) (x:=x) (olds:=Va1 es) (news:=Va1 es') (hx.len w rfl)
   (λw' hw=>Vcz g5 g3 hll hn w' hw) (λw' hw=>hx.cells w' hw) hlt hb
  obtain⟨s1,s2,s3⟩:=step_tok hr.wf (.cells (Va1 es++Va1 es'++rest).toArray e) hk0 (Va1 (es++es')).length;refine⟨_,_,_,q3,s1,hr.nextTok s1.toExt s2 (λκ h0=>s3 κ (hk2 κ h0)) (Veq (G:=G.setU _ _) hr.gn k _),?_,λi=>by simp only[Gh.next,Gh.setU];rw[if_neg (hkne i)]⟩;refine⟨hk0,by simp only[Gh.next,Gh.setU,if_true];omega,some ⟨w.heap.size,0,none⟩,nc,es++es',by simp,?_,hsz,by simpa using q1,by simp,by simp,?_,λ_=>.inr ⟨w.heap.size,0,_,e,rfl,by simp[Gh.next],Vat w.drew _,?_,?_,hke⟩⟩
  ·exact RepL.mono s1.U s1.imm _ _ (g2.append hx.rep)
  ·have:=Vhr (w:=w.drew) (cs:=Va1 (es++es')) (rest:=rest) (e:=e) (n:=(Va1 (es++es')).length) G.U (by rw[Vaw];intro c hc;rcases Ze.1 hc with h|h;exact hcellsOld c h;exact h1' c h) rfl;rw[Vaw]at this ⊢;exact this
  ·simp only[Nat.zero_add,Z8,Zj,hl1,hl2,hll,hll',q2];rw[<-Z3, <-Z3];exact Zx _ kv
  ·simp only[Gh.next,Gh.setU,if_true,Nat.zero_add];rw[Vac _ hsz];simp[hll,hll']
 rcases g6 with⟨rfl,gz⟩|⟨b,off,arr,e',rfl,o1,o2,o3,o4,o5⟩
 ·have hl0:l.length=0:=by omega
  have hl:l=[]:=Zk.1 hl0
  have hes0:es=[]:=Zk.1 kv
  by_cases hm:l'.length=0
  ·have hl'0:l'=[]:=Zk.1 hm
   have e1:=hx.len w rfl
   have e2:=hx.cells w rfl;rw[hm]at e1 e2;obtain⟨s1,s2,s3⟩:=step_gen hr.wf (k:=k);refine⟨.slice ad 0 0,w,_,?_,s1,hr.nextTok s1.toExt s2 (λκ _=>s3 κ) (Veq hr.gn k 0),?_,λ_=>rfl⟩
   ·rw[hl0];cases ad with
    |none=>exact Vff (ty:=ty) ht h2 hi (w:=w) (x:=x) e1 e2
    |some ad=>
     obtain⟨bb,oo,ss⟩:=ad
     have hss:ss=none:=gsp _ rfl;subst hss
     have hes'0:es'=[]:=Zk.1 kv;rw[hes'0]at e2
     have hs0:(storeCells ⟨bb,oo+0*sz,none⟩ (Va1 [])).run P w=.ok () w:=by simp[Va1,storeCells]
     exact Vbi (ty:=ty) ht h2 hi (w:=w) (x:=x) e1 e2 (Nat.le_refl _) hs0
   ·subst hl hl'0;exact⟨hk0,by simp only[if_true];omega,ad,0,[],rfl,by simp[RepL],by simp,by simp,by simp,gsp,.inl (by simp[Va1]),λ_=>.inl ⟨rfl,gz⟩⟩
  ·exact grow kv (λ_=>hes0) gsp
 ·by_cases hle:l.length+l'.length<=cap
  ·have hmul:(l.length+l'.length)*sz<=cap*sz:=Zx _ hle;rw[Z3]at hmul
   have hst:=run_storeCells_at (P:=P) b (off+l.length*sz) e' (Va1 es') 0 arr w o2 (by rw[hl2,hll'];omega) h1';simp only[Nat.add_zero]at hst;obtain⟨s1,s2,s3⟩:=Voj hr.wf hk0 o1 o2 (off+(l.length+l'.length)*sz) (by rw[o4,Z3];omega) (arr.toList.take (off+l.length*sz)++Va1 es'++arr.toList.drop (off+l.length*sz+(Va1 es').length)).toArray
    (fun j hj=>by
     rw[o4]at hj
     have:j<(arr.toList.take (off+l.length*sz)).length:=by simp;omega
     simp only[List.getElem?_toArray];rw[List.append_assoc,Zm this,Zw,if_pos hj]
     simp)
   refine⟨_,_,_,Vbi (ty:=ty) ht h2 hi (hx.len w rfl) (hx.cells w rfl) hle hst,s1,hr.nextTok s1.toExt s2 (λκ h0=>s3 κ (hk2 κ h0)) (Veq (G:=G.setU _ _) hr.gn k _),?_,λi=>by simp only[Gh.next,Gh.setU];rw[if_neg (hkne i)]⟩;refine⟨hk0,by simp only[Gh.next,Gh.setU,if_true];omega,some ⟨b,off,none⟩,cap,es++es',by simp,RepL.mono s1.U s1.imm _ _ (g2.append hx.rep),hsz,by simpa using hle,by simp,by simp,?_,λ_=>.inr ⟨b,off,_,e',rfl,by simp[Gh.next],setRow_heap w b arr _ e' _ o2,?_,?_,o5⟩⟩
   ·rw[Vaw]
    by_cases hzz:Va1 es++Va1 es'=[]
    ·exact .inl hzz
    ·refine .inr ⟨b,off,rfl,?_,λj v hj=>⟨?_,?_⟩⟩
     ·simp only[Gh.next,Gh.setU,if_true,Zj,hl1,hl2,hll,hll',Z3];omega
     ·simp only[World.cell?,setRow_heap w b arr _ e' _ o2];rcases Zr j (Va1 es).length with hjl|hjl
      ·rw[Zm hjl]at hj
       have hold:w.cell? ⟨b,off+j,none⟩=some v:=by
        rcases g5 with h|⟨b',off',q1,q2,q3⟩
        ·rw[h]at hjl;simp at hjl
        ·simp at q1;obtain⟨rfl,rfl⟩:=q1;exact(q3 j v hj).1
       simp only[World.cell?,o2]at hold;simp at hold
       have hlt:off+j<off+l.length*sz:=by rw[hl1,hll]at hjl;omega
       have:off+j<(arr.toList.take (off+l.length*sz)).length:=by simp;omega
       simp only[List.getElem?_toArray];rw[List.append_assoc,Zm this,Zw,if_pos hlt];simpa using hold
      ·rw[List.getElem?_append_right hjl]at hj
       have htl:(arr.toList.take (off+l.length*sz)).length=off+l.length*sz:=by simp;omega
       have hjj:j-(Va1 es).length<(Va1 es').length:=by
        rcases Zr (j-(Va1 es).length) (Va1 es').length with h|h
        ·exact h
        ·simp[Zf h]at hj
       have hq:(Va1 es).length=l.length*sz:=by rw[hl1,hll]
       have hjj2:off+j-(off+l.length*sz)<(Va1 es').length:=by omega
       simp only[List.getElem?_toArray];rw[List.append_assoc,List.getElem?_append_right (by rw[htl];omega),htl,Zm hjj2];rw[show off+j-(off+l.length*sz)=j-(Va1 es).length by omega];simpa using hj
     ·have:=Zs hj;rcases Ze.1 this with h|h
      ·exact hcellsOld v h
      ·exact h1' v h
   ·simp only[Z8,Zj,Z4,Yd,Zc,hl2,hll'];omega
   ·simp only[Gh.next,Gh.setU,if_true,Zj]
  ·exact grow kv ku ku
theorem append_clo{P:Program}{t t2 ty e:TypeId}{sz bt:Nat}{z:Value}(ht:Vbb P t=some e)(h2:Vdr P t2=true)(hi:Vak P e=some (sz,bt,some z))(hz:z.cells.size=sz)(hbt:0<bt)
  {G:Gh} {w:World} {S:St} {a:Act} {l l':List AV} {u x:Value} {es':List Value} (hr:Rel G w S a) (hown:RepS G w (.clo l) u) (hx:Src P w G.U sz x l' es') (hu0:Uni sz l) (hu:Uni sz l')
  (hb:(l.length+l'.length)*bt<=140737488355328):
  ∃v w' G',(Builtin.append_ #[t,t2] ty #[u,x]).run P w=.ok v w'/\Step G w G' w'/\Rel G' w' S a/\RepS G' w' (.av (.sl (l++l'))) v/\∀ i,G'.ow (i,0)=G.ow (i,0):=by
 obtain⟨⟨b,off,rfl⟩,hrep⟩:=hown
 have hrep0:=hrep;simp only[Rep]at hrep;obtain⟨ad,cap,es,sz',e1,g2,g3',g4,gn,gsp,g5⟩:=hrep;injection e1 with q1 q2 q3
 subst q1 q3
 have g3:=hu0.sizes g2
 have h1:=g2.cells hu0
 have hes':=hu.sizes hx.rep
 have h1':=hx.rep.cells hu
 have hll:=g2.length
 have hll':=hx.rep.length
 by_cases hm:l'.length=0
 ·have hl'0:l'=[]:=Zk.1 hm
  have hes'0:es'=[]:=Zk.1 kv
  have e1:=hx.len w rfl
  have e2:=hx.cells w rfl;rw[hm,hes'0]at *
  have hs0:(storeCells ⟨b,off+l.length*sz,none⟩ (Va1 [])).run P w=.ok () w:=by simp[Va1,storeCells]
  refine⟨_,w,G,Vbi (ty:=ty) ht h2 hi (w:=w) (x:=x) e1 e2 kv hs0,Step.refl G w,hr,?_,λ_=>rfl⟩;subst hl'0;rw[List.append_nil,Nat.add_zero];exact hrep0
 ·obtain⟨nc,rest,q1,q2,q3⟩:=Vc9 (ty:=ty) ht h2 hi hz hbt (w:=w) (a:=some ⟨b,off,none⟩) (n:=l.length) (cap:=l.length) (m:=l'.length) (x:=x) (olds:=Va1 es) (news:=Va1 es') (hx.len w rfl)
   (λw' hw=>Vcz g5 g3 hll ku w' hw) (λw' hw=>hx.cells w' hw) kv hb
  obtain⟨s1,s2,s3⟩:=Ve5 hr.wf (.cells (Va1 es++Va1 es'++rest).toArray e) (Va1 (es++es')).length
  have s1':Step G w (G.setU w.heap.size (Va1 (es++es')).length) (w.drew.alloc (.cells (Va1 es++Va1 es'++rest).toArray e)):=
   ⟨⟨s1.U,⟨s1.imm.cell,s1.imm.map,s1.imm.typ,s1.imm.frz,s1.imm.pln⟩,s1.size,s1.os,s1.tape,s1.output,s1.cp,s1.gen,λκ h0 hg=>⟨(s1.tok κ h0 hg).1,(s1.tok κ h0 hg).2⟩⟩,s1.stay,s1.rng⟩
  have s2':Wf (G.setU w.heap.size (Va1 (es++es')).length) (w.drew.alloc (.cells (Va1 es++Va1 es'++rest).toArray e)):=⟨s2.inj,s2.lt,s2.zero⟩
  have hsz:∀ e∈es++es',e.cells.size=sz:=by
   intro e he;rcases Ze.1 he with h|h
   ·exact g3 e h
   ·exact hes' e h
  refine⟨_,_,_,q3,s1',hr.keep s1'.toExt s2' (λκ _=>⟨(s3 κ).1,(s3 κ).2⟩) rfl,?_,λ_=>rfl⟩;simp only[RepS,Rep];refine⟨some ⟨w.heap.size,0,none⟩,nc,es++es',sz,by simp,RepL.mono s1'.U s1'.imm _ _ (g2.append hx.rep),hsz,by simp,by simpa using q1,by simp,?_⟩
  have:=Vhr (w:=w.drew) (cs:=Va1 (es++es')) (rest:=rest) (e:=e) (n:=(Va1 (es++es')).length) G.U (by rw[Vaw];intro c hc;rcases Ze.1 hc with h|h;exact h1 c h;exact h1' c h) rfl;rw[Vaw]at this ⊢;exact this
end Go.Eng
namespace Go.Eng
def kpos:List ByteArray->ByteArray->Option Nat
 |[],_=>none
 |k::ks,s=>if s==k then some 0 else(kpos ks s).map (· +1)
def mget(z:AV)(ks:List ByteArray)(vs:List AV)(s:ByteArray):AV:=
 match kpos ks s with
 |some j=>vs.getD j z
 |none=>z
def Vkf(ok:Bool)(z:AV)(ks:List ByteArray)(vs:List AV)(s:ByteArray):AV:=
 if ok then .tup [mget z ks vs s,.val (.bool (kpos ks s).isSome)]else mget z ks vs s
def mputK(ks:List ByteArray)(s:ByteArray):List ByteArray:=
 match kpos ks s with
 |some _=>ks
 |none=>ks++[s]
def mputV(ks:List ByteArray)(vs:List AV)(s:ByteArray)(v:AV):List AV:=
 match kpos ks s with
 |some j=>vs.set j v
 |none=>vs++[v]
theorem bytes_eq{a b:ByteArray}:(a==b)=true ↔ a=b:=MapKept.bytes_beq a b
theorem Vno{s:ByteArray}:∀ {ks:List ByteArray} {j:Nat},kpos ks s=some j->ks[j]? =some s
 |[],j,h=>by simp[kpos]at h
 |k::ks,j,h=>by
  simp only[kpos]at h
  split at h
  ·rename_i hk;simp at h;subst h;simp[bytes_eq.1 hk]
  ·simp only[Zb]at h;obtain⟨i,h1,rfl⟩:=h;simpa using Vno h1
theorem Vgs(s:ByteArray):∀(es:List MapEntry)(ks:List ByteArray)(i:Nat),es.map (·.key)=ks.map .string->
  Instr.findNow .string (.string s) es i=some ((kpos ks s).bind (λj=>(es[j]?).map (λe=>(i+j,e.val))))
 |[],ks,i,h=>by
  cases ks with
  |nil=>rfl
  |cons k ks=>simp at h
 | e::es,ks,i,h=>by
  cases ks with
  |nil=>simp at h
  | cons k ks=>
   simp only[Zu,List.cons.injEq]at h;obtain⟨h1,h2⟩:=h;simp only[Instr.findNow,h1,Instr.sameNow,kpos];cases hk:s==k with
   |true=>simp
   |false=>
    simp only[Z6,if_false];rw[Vgs s es ks (i+1) h2];cases kpos ks s with
    |none=>rfl
    |some j=>simp[Z1,Nat.add_comm 1 j]
section
variable {P:Program}
theorem Ve9(s:ByteArray):MapKept.IsKey .string (.string s):=by simp[MapKept.IsKey]
theorem Vcg{t k e:TypeId}(h:tMap P t=some (k,e)):P.underlying t=some (.map k e):=by
 unfold tMap at h;split at h
 ·rename_i hh;simp at h;obtain⟨rfl,rfl⟩:=h;exact hh
 ·simp at h
theorem Vdx{t:TypeId}(h:tStr P t=true):P.underlying t=some .string:=by
 unfold tStr at h;split at h
 ·assumption
 ·simp at h
def zAV(z:Value):Option AV:=
 if z.oneCell'=true then some (Vdi z)else match z with
  | .agg cs=>if cs.toList.all (λc=>c.oneCell')=true then some (.agg (cs.toList.map Vdi))else none
  |_=>none
theorem Voa{z:Value}{za:AV}(h:zAV z=some za)(U:Nat->Nat)(w:World):Rep U w za z:=by
 unfold zAV at h
 split at h
 ·rename_i h1;simp only[Za]at h;subst h;exact Vlc z h1
 ·split at h
  ·rename_i cs _
   split at h
   ·rename_i h2;simp only[Za]at h;subst h
    have h':∀ c∈cs.toList,c.oneCell'=true:=λc hc=>Z0.1 h2 c hc
    simp only[Rep];exact⟨cs,rfl,Ved _ h',h'⟩
   ·simp at h
  ·simp at h
theorem Vlq{t k e:TypeId}{sz bt:Nat}{z:Value}(ht:tMap P t=some (k,e))(hk:tStr P k=true)(hz:Vak P e=some (sz,bt,some z)){w:World}(s:ByteArray)(ok:Bool){U:Nat->Nat}{za:AV}(h1:∀ U w,Rep U w za z):
  ∃v,(Instr.lookup t (.map none) (.string s) ok).run P w=.ok v w/\Rep U w (Vkf ok za [] [] s) v:=by
 refine⟨if ok then .tuple #[z,.bool false]else z,?_,?_⟩
 ·cases ok <;>simp[Instr.lookup,Va0 (Vcg ht),MapKept.run_checkKey (Vdx hk) (Ve9 s),MapKept.run_findKey (Vdx hk) (show Instr.findNow .string (.string s) [] 0=some none from rfl),Vam hz]
 ·unfold Vkf mget;cases ok with
  |false=>exact h1 U w
  |true=>
   simp only[if_true,Rep,kpos];refine⟨_,rfl,?_⟩;simp only[RepL];exact⟨z,[.bool false],rfl,h1 U w,.bool false,[],rfl,by simp only[Rep];exact⟨rfl,rfl⟩,rfl⟩
theorem Vg7{t k e:TypeId}{sz bt:Nat}{z:Value}(ht:tMap P t=some (k,e))(hk:tStr P k=true)(hz:Vak P e=some (sz,bt,some z)){w:World}{b:Nat}{ents:Array MapEntry}{clock:Nat}
  (hb:w.heap[b]? =some (.map ents clock)) {ks:List ByteArray} (hks:ents.toList.map (·.key)=ks.map .string) (s:ByteArray) (ok:Bool) {U:Nat->Nat} {vs:List AV} (hvs:RepL U w vs (ents.toList.map (·.val))) {za:AV} (h1:∀ U w,Rep U w za z):
  ∃v,(Instr.lookup t (.map (some b)) (.string s) ok).run P w=.ok v w/\Rep U w (Vkf ok za ks vs s) v:=by
 have hf:=Vgs s ents.toList ks 0 hks
 have hlen:ents.toList.length=ks.length:=by simpa using congrArg Z7 hks
 have mk:∀(v:Value),Rep U w (mget za ks vs s) v->∀ fnd:Bool,fnd=(kpos ks s).isSome->Rep U w (Vkf ok za ks vs s) (if ok then .tuple #[v,.bool fnd]else v):=by
  intro v hv fnd hfnd;unfold Vkf;cases ok with
  |false=>exact hv
  |true=>
   simp only[if_true,Rep];refine⟨_,rfl,?_⟩;simp only[RepL];exact⟨v,[.bool fnd],rfl,hv,.bool fnd,[],rfl,by simp only[Rep];rw[hfnd];exact⟨rfl,rfl⟩,rfl⟩
 cases hp:kpos ks s with
 |none=>
  rw[hp]at hf;simp only[Option.bind_none]at hf;refine⟨if ok then .tuple #[z,.bool false]else z,?_,mk z ?_ false (by rw[hp];rfl)⟩
  ·cases ok <;>simp[Instr.lookup,Va0 (Vcg ht),MapKept.run_getObj_map hb,MapKept.run_checkKey (Vdx hk) (Ve9 s),MapKept.run_findKey (Vdx hk) hf,Vam hz]
  ·unfold mget;rw[hp];exact h1 U w
 | some j=>
  have hj:=Vno hp
  have hjl:j<ks.length:=by
   rcases Zr j ks.length with h|h
   ·exact h
   ·simp[Zf h]at hj
  have hje:j<ents.toList.length:=by omega
  rw[hp]at hf;simp only[Ya,List.getElem?_eq_getElem hje,Zo]at hf;refine⟨if ok then .tuple #[(ents.toList[j]'hje).val,.bool true]else(ents.toList[j]'hje).val,?_,mk _ ?_ true (by rw[hp];rfl)⟩
  ·cases ok <;>simp[Instr.lookup,Va0 (Vcg ht),MapKept.run_getObj_map hb,MapKept.run_checkKey (Vdx hk) (Ve9 s),MapKept.run_findKey (Vdx hk) hf]
  ·have hvl:vs.length=ents.toList.length:=by rw[<-hvs.length];simp
   have hjv:j<vs.length:=by omega
   unfold mget;rw[hp];simp only[List.getD_eq_getElem?_getD,List.getElem?_eq_getElem hjv,Option.getD_some];obtain⟨u,e1,e2⟩:=hvs.get j vs[j] (List.getElem?_eq_getElem hjv);simp only[Zv,List.getElem?_eq_getElem hje,Zo,Za]at e1;rw[e1];exact e2
theorem Vjy{o:Oper}{S:St}{t k e:TypeId}{sz bt:Nat}{z:Value}{x i:Operand}{ok:Bool}{b:Nat}{ks:List ByteArray}{vs:List AV}{s:ByteArray}(ho:o.op=.lookup t x i ok)(hx:S.ev x=.mp b)(hi:S.ev i=.av (.val (.string s)))
  (ht:tMap P t=some (k,e)) (hk:tStr P k=true) (hz:Vak P e=some (sz,bt,some z)) {za:AV} (h1:zAV z=some za) (hb:S.bx.lookup b=some (.map ks vs)):Sound P o S ⟨True,.av (Vkf ok za ks vs s),S⟩:=
 Sound.still λ_ G w a hr=>by
  have h2:=hr.ev x;rw[hx]at h2;obtain⟨blk,h3,h4⟩:=h2
  have h5:=hr.ev i;rw[hi]at h5;simp only[RepS,Rep]at h5;obtain⟨blk',ents,clock,g1,g2,g3,g4,g5,g6⟩:=hr.bx _ (Vad hb);simp only at g1;rw[h3]at g1;simp at g1;subst g1;obtain⟨v,e1,e2⟩:=Vg7 (P:=P) ht hk hz g2 g4 s ok g5 (Voa h1);exact⟨v,by simp only[execOp,ho,h4,h5.1,Sem.run_bind,e1];rfl,e2⟩
theorem Vjw{o:Oper}{S:St}{t k e:TypeId}{sz bt:Nat}{z:Value}{x i:Operand}{ok:Bool}{ks:List ByteArray}{vs:List AV}{s:ByteArray}(ho:o.op=.lookup t x i ok)(hx:S.ev x=.av (.rm ks vs))(hi:S.ev i=.av (.val (.string s)))
  (ht:tMap P t=some (k,e)) (hk:tStr P k=true) (hz:Vak P e=some (sz,bt,some z)) {za:AV} (h1:zAV z=some za):Sound P o S ⟨True,.av (Vkf ok za ks vs s),S⟩:=
 Sound.still λ_ G w a hr=>by
  have h2:=hr.ev x;rw[hx]at h2;simp only[RepS,Rep]at h2;obtain⟨b,ents,clock,h3,h4,h6,h7,h8⟩:=h2
  have h5:=hr.ev i;rw[hi]at h5;simp only[RepS,Rep]at h5;obtain⟨v,e1,e2⟩:=Vg7 (P:=P) ht hk hz h6 h7 s ok h8 (Voa h1);exact⟨v,by simp only[execOp,ho,h3,h5.1,Sem.run_bind,e1];rfl,e2⟩
theorem Vjx{o:Oper}{S:St}{t k e:TypeId}{sz bt:Nat}{z:Value}{x i:Operand}{ok:Bool}{s:ByteArray}(ho:o.op=.lookup t x i ok)(hx:S.ev x=.av (.val (.map none)))(hi:S.ev i=.av (.val (.string s)))
  (ht:tMap P t=some (k,e)) (hk:tStr P k=true) (hz:Vak P e=some (sz,bt,some z)) {za:AV} (h1:zAV z=some za):Sound P o S ⟨True,.av (Vkf ok za [] [] s),S⟩:=
 Sound.still λ_ G w a hr=>by
  have h2:=hr.ev x;rw[hx]at h2;simp only[RepS,Rep]at h2
  have h5:=hr.ev i;rw[hi]at h5;simp only[RepS,Rep]at h5;obtain⟨v,e1,e2⟩:=Vlq (P:=P) (w:=w) (U:=G.U) ht hk hz s ok (Voa h1);exact⟨v,by simp only[execOp,ho,h2.1,h5.1,Sem.run_bind,e1];rfl,e2⟩
theorem Vel{o:Oper}{S:St}{t k e:TypeId}{r:Option Operand}{id:Nat}(ho:o.op=.makeMap t r)(ht:tMap P t=some (k,e))(hr:∀ x,r=some x->∃ kd n,S.ev x=.av (.val (.int kd n)))(hid:id<1000)(hn:S.names id=false):
  Sound P o S ⟨True,.mp id,S.addBox id (.map [] [])⟩:=by
 intro _ G w a hrel;obtain⟨s1,s2,s3⟩:=Ve4 hrel.wf (.map #[] 0) id
 have hrb:=hrel.bind hn (.map #[] 0);refine⟨.value (.map (some w.heap.size)),.map (some w.heap.size),_,_,?_,.inl rfl,s1,⟨hrb.wf,hrb.size,hrb.fr,λp hp=>?_,hrb.gn,hrb.defers⟩,⟨w.heap.size,by simp[Gh.bind],rfl⟩,λi hi=>?_⟩
 ·cases r with
  |none=>simp[execOp,ho,Instr.makeMap]
  |some x=>
   obtain⟨kd,n,hx⟩:=hr x rfl
   have h2:=hrel.ev x;rw[hx]at h2;simp only[RepS,Rep]at h2;simp[execOp,ho,Instr.makeMap,Va0 (Vcg ht),h2.1,asInt,asIntOf]
 ·simp only[St.addBox,Z2]at hp;rcases hp with rfl|hp
  ·exact⟨w.heap.size,#[],0,by simp[Gh.bind],Vat w _,hrel.wf.zero _ (Nat.le_refl _),by simp,by simp[RepL],by simp⟩
  ·exact hrb.bx p hp
 ·simp only[Gh.bind];rw[if_neg (by intro h;simp only[Zd]at h;omega)]
theorem Vgh{G:Gh}{w:World}(hw:Wf G w){id:Nat}{blk:Nat}{ents:Array MapEntry}{clock:Nat}(ho:G.ow (id,0)=some blk)(hh:w.heap[blk]? =some (.map ents clock))(hU:G.U blk=0)(ob:Obj):
  Step G w G {w with heap:=w.heap.setIfInBounds blk ob}/\Wf G {w with heap:=w.heap.setIfInBounds blk ob}/\∀ κ',κ'≠(id,0)->Keep G w G {w with heap:=w.heap.setIfInBounds blk ob} κ':=by
 have hoth:∀ k,k≠blk->(w.heap.setIfInBounds blk ob)[k]? =w.heap[k]? :=λk hk=>(MapKept.heap_set hh).2 k hk
 have hkp:∀ κ',κ'≠(id,0)->Keep G w G {w with heap:=w.heap.setIfInBounds blk ob} κ':=λκ' hk'=>⟨rfl,λb hb=>⟨hoth b (λhe=>by subst he;exact hk' (hw.inj κ' (id,0) b hb ho)),rfl⟩⟩
 refine⟨⟨⟨λb=>Nat.le_refl _,Vkn (λb hb=>hoth b (λhe=>by subst he;omega)),by simp,rfl,rfl,rfl,λ_ _=>rfl,λ_=>Nat.le_refl _,λκ h0 _=>hkp κ (by intro e;rw[e]at h0;simp at h0)⟩,λb hb hn=>⟨hoth b (λhe=>hn _ (he ▸ ho)),rfl⟩,λκ b h=>.inl ⟨κ,h⟩⟩,⟨hw.inj,λκ b h=>?_,λb hb=>?_⟩,hkp⟩
 ·simpa using hw.lt κ b h
 ·exact hw.zero b (by simpa using hb)
theorem Vi1{t k e:TypeId}(ht:tMap P t=some (k,e))(hk:tStr P k=true){w:World}{b:Nat}{ents:Array MapEntry}{clock:Nat}
  (hb:w.heap[b]? =some (.map ents clock)) {ks:List ByteArray} (hks:ents.toList.map (·.key)=ks.map .string) (s:ByteArray) (v:Value) (hborn:∀ e∈ents.toList,e.born<clock):
  ∃(ents':Array MapEntry)(clock':Nat),(Instr.mapUpdate t (.map (some b)) (.string s) v).run P w=.ok () {w with heap:=w.heap.setIfInBounds b (.map ents' clock')}/\ents'.toList.map (·.key)=(mputK ks s).map .string/\
   (∀e∈ents'.toList,e.born<clock')/\ents'.toList.map (·.val)=(match kpos ks s with|some j=>(ents.toList.map (·.val)).set j v|none=>ents.toList.map (·.val)++[v]):=by
 have hf:=Vgs s ents.toList ks 0 hks
 have hlen:ents.toList.length=ks.length:=by simpa using congrArg Z7 hks
 cases hp:kpos ks s with
 | none=>
  rw[hp]at hf;simp only[Option.bind_none]at hf;refine⟨ents.push {key:=.string s,val:=v,born:=clock},clock+1,?_,?_,?_,?_⟩
  ·simp[Instr.mapUpdate,Va0 (Vcg ht),MapKept.run_getObj_map hb,MapKept.run_checkKey (Vdx hk) (Ve9 s),MapKept.run_findKey (Vdx hk) hf,MapKept.run_setObj_map _ hb]
  ·simp only[mputK,hp,Array.toList_push,List.map_append,hks];simp
  ·intro e he;simp only[Array.toList_push,Ze,List.mem_singleton]at he;rcases he with he|rfl
   ·have:=hborn e he;omega
   ·simp
  ·simp
 | some j=>
  have hj:=Vno hp
  have hjl:j<ks.length:=by
   rcases Zr j ks.length with h|h
   ·exact h
   ·simp[Zf h]at hj
  have hje:j<ents.toList.length:=by omega
  have hje':j<ents.size:=by simpa using hje
  rw[hp]at hf;simp only[Ya,List.getElem?_eq_getElem hje,Zo]at hf
  have hkey:(ents.toList[j]'hje).key=.string s:=by
   have:=congrArg (λl=>l[j]?) hks;simp only[Zv,List.getElem?_eq_getElem hje,hj,Zo,Za]at this;exact this
  have hkey':ents[j].key=.string s:=by simpa using hkey
  have hmod:∀ f:MapEntry->MapEntry,(ents.modify j f).toList=ents.toList.modify j f:=λf=>by simp
  refine⟨ents.modify j (λe=>{e with key:=.string s,val:=v}),clock,?_,?_,?_,?_⟩
  ·simp[Instr.mapUpdate,Va0 (Vcg ht),MapKept.run_getObj_map hb,MapKept.run_checkKey (Vdx hk) (Ve9 s),MapKept.run_findKey (Vdx hk) hf,hje',hkey',MapKept.run_keyThatStays (Ve9 s),MapKept.run_setObj_map _ hb]
  ·simp only[mputK,hp,hmod, <-hks];apply List.ext_getElem?;intro i;simp only[Zv,List.getElem?_modify];cases he:ents.toList[i]? with
   |none=>simp
   |some e=>
    simp only[Zo,Option.map_eq_map]
    split
    ·rename_i hij;subst hij;rw[List.getElem?_eq_getElem hje]at he;simp only[Za]at he;subst he;simp only[Zo];rw[hkey]
    ·simp
  ·intro e he;simp only[hmod]at he;obtain⟨i,hi⟩:=List.mem_iff_getElem?.1 he;simp only[List.getElem?_modify]at hi;cases hx:ents.toList[i]? with
   |none=>rw[hx]at hi;simp at hi
   |some e0=>
    rw[hx]at hi
    have h0:=hborn e0 (Zs hx);simp only[Option.map_eq_map,Zo]at hi
    split at hi
    ·simp only[Za]at hi;rw[<-hi];exact h0
    ·simp only[id_eq,Za]at hi;rw[<-hi];exact h0
  ·simp only[hmod];apply List.ext_getElem?;intro i;simp only[Zv,List.getElem?_modify,List.getElem?_set,List.length_map]
   by_cases hij:j=i
   ·subst hij;simp[hje']
   ·rw[if_neg hij];cases he:ents.toList[i]? with
    |none=>simp
    |some e=>simp[hij]
theorem Vjv{o:Oper}{S:St}{t k e:TypeId}{x i y:Operand}{b:Nat}{ks:List ByteArray}{vs:List AV}{s:ByteArray}{v:AV}(ho:o.op=.mapUpdate t x i y)(hx:S.ev x=.mp b)(hi:S.ev i=.av (.val (.string s)))(hy:(S.ev y).toAV=some v)
  (ht:tMap P t=some (k,e)) (hk:tStr P k=true) (hb:S.bx.lookup b=some (.map ks vs)):Sound P o S ⟨True,Vas,S.setBox b (.map (mputK ks s) (mputV ks vs s v))⟩:=by
 intro _ G w a hr
 have h2:=hr.ev x;rw[hx]at h2;obtain⟨blk,h3,h4⟩:=h2
 have h5:=hr.ev i;rw[hi]at h5;simp only[RepS,Rep]at h5
 have h6:=(hr.ev y).toAV hy;obtain⟨blk',ents,clock,g1,g2,g3,g4,g5,g6⟩:=hr.bx _ (Vad hb);simp only at g1;rw[h3]at g1;simp at g1;subst g1;obtain⟨ents',clock',e1,e2,e3,e4⟩:=Vi1 (P:=P) ht hk g2 g4 s (a.eval y) g6;obtain⟨s1,s2,s3⟩:=Vgh hr.wf h3 g2 g3 (.map ents' clock')
 have hper:∀ s u,RepS G w s u->RepS G {w with heap:=w.heap.setIfInBounds blk (.map ents' clock')} s u:=λs u hs=>hs.persist s1.toExt (λ_ _=>rfl)
 refine⟨.skip,undef,_,G,?_,.inr ⟨rfl,rfl⟩,s1,⟨s2,hr.size,λt s ht=>hper _ _ (hr.fr t s ht),λp hp=>?_,hr.gn,hr.defers⟩,?_,λ_ _=>rfl⟩
 ·simp only[execOp,ho,h4,h5.1,Sem.run_bind,e1];rfl
 ·simp only[St.setBox,Zz]at hp;obtain⟨q,hq,rfl⟩:=hp
  split
  ·rename_i hqb;refine⟨blk,ents',clock',by rw[hqb];exact h3,(MapKept.heap_set g2).1,g3,e2,?_,e3⟩;rw[e4];unfold mputV
   have g5':=RepL.mono s1.U s1.imm _ _ g5
   have h6':=Rep.mono s1.U s1.imm _ _ h6;cases kpos ks s with
   |none=>exact g5'.append (by simp only[RepL];exact⟨_,[],rfl,h6',rfl⟩)
   |some j=>exact g5'.set j h6'
  ·rename_i hqb;exact(hr.bx q hq).persist s1.toExt (s3 (q.1,0) (by simpa using hqb)) (λ_ _=>rfl)
 ·simp only[Vas,RepS,Rep];exact⟨#[],rfl,by simp[RepL]⟩
theorem sound_clear{o:Oper}{S:St}{t k e:TypeId}{x:Operand}{b:Nat}{ks:List ByteArray}{vs:List AV}(ho:o.op=.call {callee:=.builtin .clear,args:=#[x],argTypes:=#[t]})(hx:S.ev x=.mp b)(ht:tMap P t=some (k,e))(hb:S.bx.lookup b=some (.map ks vs)):
  Sound P o S ⟨True,Vas,S.setBox b (.map [] [])⟩:=by
 intro _ G w a hr
 have h2:=hr.ev x;rw[hx]at h2;obtain⟨blk,h3,h4⟩:=h2;obtain⟨blk',ents,clock,g1,g2,g3,g4,g5,g6⟩:=hr.bx _ (Vad hb);simp only at g1;rw[h3]at g1;simp at g1;subst g1;obtain⟨s1,s2,s3⟩:=Vgh hr.wf h3 g2 g3 (.map #[] clock)
 have hper:∀ s u,RepS G w s u->RepS G {w with heap:=w.heap.setIfInBounds blk (.map #[] clock)} s u:=λs u hs=>hs.persist s1.toExt (λ_ _=>rfl)
 obtain⟨c,hc⟩:=Vax (P:=P) (a:=a) ho w;refine⟨.value undef,undef,_,G,?_,.inl rfl,s1,⟨s2,hr.size,λt s ht=>hper _ _ (hr.fr t s ht),λp hp=>?_,hr.gn,hr.defers⟩,?_,λ_ _=>rfl⟩
 ·rw[hc];simp[builtin,Builtin.clear_,Va0 (Vcg ht),h4,MapKept.run_getObj_map g2,MapKept.run_setObj_map _ g2,undef,Result.andThen]
 ·simp only[St.setBox,Zz]at hp;obtain⟨q,hq,rfl⟩:=hp
  split
  ·rename_i hqb;exact⟨blk,#[],clock,by rw[hqb];exact h3,(MapKept.heap_set g2).1,g3,by simp,by simp[RepL],by simp⟩
  ·rename_i hqb;exact(hr.bx q hq).persist s1.toExt (s3 (q.1,0) (by simpa using hqb)) (λ_ _=>rfl)
 ·simp only[Vas,RepS,Rep];exact⟨#[],rfl,by simp[RepL]⟩
def cell1:Value->Bool
 | .int _ _=>true
 | .bool _=>true
 | .string _=>true
 | .slice none 0 0=>true
 |_=>false
theorem cell1_ok{z:Value}(h:cell1 z=true):z.cells=#[z]/\z.oneCell'=true:=by
 unfold cell1 at h
 split at h
 ·exact⟨rfl,rfl⟩
 ·exact⟨rfl,rfl⟩
 ·exact⟨rfl,rfl⟩
 ·exact⟨rfl,rfl⟩
 ·simp at h
theorem Vle{U:Nat->Nat}{w:World}{z:Value}(h:z.oneCell'=true):∀ n,RepL U w (Zn n (Vdi z)) (Zn n z)
 |0=>by simp[RepL]
 |n+1=>by rw[List.replicate_succ,List.replicate_succ];simp only[RepL];exact⟨_,_,rfl,Vlc z h,Vle h n⟩
theorem Vol{o:Oper}{S:St}{t e:TypeId}{bt:Nat}{z:Value}{x y:Operand}{k k':IntKind}{i:Int}(ho:o.op=.makeSlice t x y)(hx:S.ev x=.av (.val (.int k i)))(hy:S.ev y=.av (.val (.int k' i)))
  (ht:Vbb P t=some e) (hi:Vak P e=some (1,bt,some z)) (hz:cell1 z=true):Sound P o S ⟨0<=i/\(bt:Int)*i<=281474976710656/\i<=9223372036854775807,.av (.sl (Zn i.toNat (Vdi z))),S⟩:=by
 rintro⟨q1,q2,q3⟩ G w a hr;obtain⟨z1,z2⟩:=cell1_ok hz
 have h1:=hr.ev x;rw[hx]at h1;simp only[RepS,Rep]at h1
 have h2:=hr.ev y;rw[hy]at h2;simp only[RepS,Rep]at h2
 have ht':P.underlying t=some (.slice e):=by
  unfold Vbb at ht;split at ht
  ·rename_i hh;simp at ht;subst ht;exact hh
  ·simp at ht
 obtain⟨ti,e1,e2,e3,e4⟩:∃ ti,P.info? e=some ti/\ti.size=1/\ti.bytes=bt/\ti.zero=some z:=by
  unfold Vak at hi;cases hI:P.info? e with
  |none=>rw[hI]at hi;simp at hi
  |some ti=>rw[hI]at hi;simp at hi;exact⟨ti,rfl,hi.1,hi.2.1,hi.2.2⟩
 subst e3
 have hrun:=run_make (P:=P) w t e ti z ht' e1 e4 k k' i i q1 (Int.le_refl _) q2 q3
 have hm:(madeCells z.cells (i.toNat*ti.size))=(Va1 (Zn i.toNat z)).toArray:=by
  have hv:∀ n,Va1 (Zn n z)=Zn n z:=by
   intro n
   induction n with
   |zero=>rfl
   |succ n ih=>rw[List.replicate_succ,Va1,Zi, <-Va1,ih,z1];rfl
  rw[hv,e2,z1,Nat.mul_one];apply Array.ext';apply List.ext_getElem
  ·simp[madeCells]
  ·intro j h1 h2;simp[madeCells,Nat.mod_one]
 rw[hm]at hrun;obtain⟨s1,s2,s3⟩:=Ve5 hr.wf (.cells (Va1 (Zn i.toNat z)).toArray e) (Va1 (Zn i.toNat z)).length;refine⟨_,.slice (some ⟨w.heap.size,0,none⟩) i.toNat i.toNat,w.alloc (.cells (Va1 (Zn i.toNat z)).toArray e),G.setU w.heap.size (Va1 (Zn i.toNat z)).length,?_,.inl rfl,s1,hr.keep s1.toExt s2 (λκ _=>s3 κ) rfl,?_,λ_ _=>rfl⟩
 ·simp only[execOp,ho,h1.1,h2.1,hrun];simp[hrun]
 ·simp only[RepS,Rep];refine⟨_,i.toNat,Zn i.toNat z,1,by rw[List.length_replicate],Vle z2 _,?_,by simp,by simp,by simp,?_⟩
  ·intro c hc;rw[List.eq_of_mem_replicate hc,z1];rfl
  ·have:=Vhr (w:=w) (e:=e) (cs:=Va1 (Zn i.toNat z)) (rest:=[]) G.U (by
    intro c hc;simp only[Va1,Zt]at hc;obtain⟨q,hq,hc⟩:=hc;rw[List.eq_of_mem_replicate hq,z1]at hc
    simp at hc;subst hc;exact z2) rfl
   rw[List.append_nil]at this;exact this
end
end Go.Eng
namespace Go.Eng
def AV.isByte:AV->Bool
 | .val (.int .u8 _)=>true
 |_=>false
def AV.byte:AV->UInt8
 | .val (.int .u8 n)=>UInt8.ofNat n.toNat
 |_=>0
def Vl3(l:List AV):ByteArray:=⟨(l.map AV.byte).toArray⟩
def Vhm(P:Program)(src dst:TypeId)(v:SV)(S:St):Option Res:=
 match P.underlying src,P.underlying dst with
 |some (.int _),some (.int k)=>match v with
  | .av (.val (.int _ n))=>some ⟨True,.av (.val (.int k (k.wrap n))),S⟩
  |_=>none
 |some (.int _),some .string=>match v with
  | .av (.val (.int _ n))=>some ⟨True,.av (.val (.string (Utf8.encode n))),S⟩
  |_=>none
 |some (.slice e),some .string=>match P.underlying e,v.toAV with
  |some (.int .u8),some (.sl l)=>some ⟨l.all AV.isByte=true,.av (.val (.string (Vl3 l))),S⟩
  |_,_=>none
 |_,_=>none
theorem Vhz{P:Program}{o:Oper}{S:St}{src dst:TypeId}{x:Operand}{k k0 k':IntKind}{n:Int}(ho:o.op=.convert src dst x)(h1:P.underlying src=some (.int k0))(h2:P.underlying dst=some (.int k))(hx:S.ev x=.av (.val (.int k' n))):Sound P o S ⟨True,.av (.val (.int k (k.wrap n))),S⟩:=
 Sound.still λ_ G w a hr=>by
  have h3:=hr.ev x;rw[hx]at h3;simp only[RepS,Rep]at h3;refine⟨.int k (k.wrap n),?_,⟨rfl,rfl⟩⟩;simp[execOp,ho,h3.1,convert,Va0 h1,Va0 h2,Conv.intToInt]
theorem Vh4{P:Program}{o:Oper}{S:St}{src dst:TypeId}{x:Operand}{k0 k':IntKind}{n:Int}(ho:o.op=.convert src dst x)(h1:P.underlying src=some (.int k0))(h2:P.underlying dst=some .string)(hx:S.ev x=.av (.val (.int k' n))):Sound P o S ⟨True,.av (.val (.string (Utf8.encode n))),S⟩:=
 Sound.still λ_ G w a hr=>by
  have h3:=hr.ev x;rw[hx]at h3;simp only[RepS,Rep]at h3;refine⟨.string (Utf8.encode n),?_,⟨rfl,rfl⟩⟩;simp[execOp,ho,h3.1,convert,Va0 h1,Va0 h2,Conv.intToString]
theorem Vmf{P:Program}:∀(l:List AV)(es:List Value){U:Nat->Nat}{w:World},RepL U w l es->l.all AV.isByte=true->∀(w':World)(s:ByteArray),
  (forIn es s (λc s => (match c with | .int .u8 n => pure (ForInStep.yield (s.push (UInt8.ofNat n.toNat))) | _ => stuck "bytesToString: byte expected") : Value -> ByteArray -> Sem (ForInStep ByteArray))).run P w' = .ok ⟨s.data ++ (l.map AV.byte).toArray⟩ w'
 |[],es,U,w,h,_,w',s=>by simp only[RepL]at h;subst h;simp
 | x::l,es,U,w,h,hb,w',s=>by
  simp only[RepL]at h;obtain⟨u,es',rfl,h1,h2⟩:=h;simp only[List.all_cons,Bool.and_eq_true]at hb;obtain⟨hb1,hb2⟩:=hb
  have:∃ n,x=.val (.int .u8 n):=by
   unfold AV.isByte at hb1;split at hb1
   ·exact⟨_,rfl⟩
   ·simp at hb1
  obtain⟨n,rfl⟩:=this;simp only[Rep]at h1;obtain⟨rfl,_⟩:=h1;simp only[List.forIn_cons,Sem.run_bind,Sem.run_pure,Result.andThen_ok];rw[Vmf l es' h2 hb2];congr 2;apply Array.ext';simp[AV.byte,ByteArray.push]
theorem Vgj{P:Program}{o:Oper}{S:St}{src dst e:TypeId}{x:Operand}{l:List AV}(ho:o.op=.convert src dst x)(h1:P.underlying src=some (.slice e))(h2:P.underlying dst=some .string)(h3:P.underlying e=some (.int .u8))(hx:(S.ev x).toAV=some (.sl l)):Sound P o S ⟨l.all AV.isByte=true,.av (.val (.string (Vl3 l))),S⟩:=
 Sound.still λhb G w a hr=>by
  have h4:=(hr.ev x).toAV hx;simp only[Rep]at h4;obtain⟨ad,cap,es,sz,h5,h6,h7,h8,h9,h10,h11⟩:=h4
  have hone:∀ v∈es,v.cells=#[v]:=by
   intro v hv;obtain⟨y,hy,hr'⟩:=h6.mem v hv
   have hy':=Z0.1 hb y hy;unfold AV.isByte at hy';split at hy'
   ·simp only[Rep]at hr';rw[hr'.1];rfl
   ·simp at hy'
  rw[Vd3 es hone]at h11;refine⟨.string (Vl3 l),?_,⟨rfl,rfl⟩⟩;cases ad with
  |none=>
   have he:=h8 rfl;subst he
   have hl:l=[]:=by exact Zk.1 (by have:=h6.length;simpa using this.symm)
   subst hl;simp[execOp,ho,h5,convert,Va0 h1,Va0 h2,Va0 h3,Conv.bytesToString,Vl3];rfl
  | some ad=>
   have hcl:(loadCells ad l.length).run P w=.ok es.toArray w:=by
    have hlen:=h6.length;rw[<-hlen];refine run_loadCells_list w ad es (λj v hj=>?_);rcases h11 with h|⟨b,off,q1,q2,q3⟩
    ·rw[h]at hj;simp at hj
    ·simp at q1;subst q1;rw[Vba];exact(q3 j v hj).1
   have hlp:=Vmf (P:=P) l es h6 hb w ByteArray.empty;simp only[execOp,ho,h5,convert,Sem.run_bind,Va0 h1,Va0 h2,Va0 h3,Result.andThen_ok,Conv.bytesToString,hcl];simp only[<-Array.forIn_toList]
   erw [hlp]
   simp[Vl3]
def Vma:AV->AV->Bool
 | .val (.string a),.val (.string b)=>eqs a b
 | .val (.bool a),.val (.bool b)=>a==b
 | .val (.int _ a),.val (.int _ b)=>a==b
 |_,_=>false
def Veu:List AV->List AV->Bool
 |x::l,y::l'=>Vma x y&&Veu l l'
 |_,_=>true
def cellOk:Option TypeDesc->AV->AV->Bool
 |some .string,.val (.string _),.val (.string _)=>true
 |some .bool,.val (.bool _),.val (.bool _)=>true
 |some (.int _),.val (.int k _),.val (.int k' _)=>decide (k=k')
 |_,_,_=>false
def Vdt(P:Program):List Field->Nat->List AV->List AV->Bool
 |[],_,[],[]=>true
 | f :: fs, i, x :: l, y :: l' => f.name != "_" && f.offset == i && cellOk (P.underlying f.type) x y && Vdt P fs (i + 1) l l'
 |_,_,_,_=>false
theorem bytes_beq(a b:ByteArray):(a==b)=(a.toList==b.toList):=by
 show(a.data==b.data)=_;rw[Lib.toList_data,Lib.toList_data,Bool.eq_iff_iff,beq_iff_eq,beq_iff_eq];exact⟨λh=>by rw[h],λh=>Array.ext' h⟩
theorem cell_equal{P:Program}{d:Nat}{t:TypeId}{x y:AV}{u v:Value}{U:Nat->Nat}{w:World}(h:cellOk (P.underlying t) x y=true)(hx:Rep U w x u)(hy:Rep U w y v):(Op.equalIn (d+1) t u v).run P w=.ok (Vma x y) w/\tAgg P t=some false:=by
 unfold cellOk at h
 split at h
 ·rename_i hu;simp only[Rep]at hx hy;rw[hx.1,hy.1];exact⟨by simp only[Op.equalIn,Sem.run_bind,Va0 hu,Result.andThen_ok,Vma, <-Vm9, <-bytes_beq,Sem.run_pure],by simp[tAgg,hu]⟩
 ·rename_i hu;simp only[Rep]at hx hy;rw[hx.1,hy.1];exact⟨by simp[Op.equalIn,Va0 hu,Vma],by simp[tAgg,hu]⟩
 ·rename_i hu;simp only[Rep]at hx hy;simp only[decide_eq_true_eq]at h;rw[hx.1,hy.1];exact⟨by simp[Op.equalIn,Va0 hu,Vma,h],by simp[tAgg,hu]⟩
 ·simp at h
theorem eq_loop{P:Program}{d:Nat}{U:Nat->Nat}{w:World}{xs ys:Array Value}:∀(fs:List Field)(i:Nat)(l l':List AV),Vdt P fs i l l'=true->RepL U w l (xs.toList.drop i)->RepL U w l' (ys.toList.drop i)->
  (do
   for f in fs do
    if f.name ≠ "_" then
     if !(<-Op.equalIn (d+1) f.type (<-part f.type xs f.offset) (<-part f.type ys f.offset))then return false
   pure true:Sem Bool).run P w=.ok (Veu l l') w
 |[],i,l,l',h,_,_=>by
  unfold Vdt at h;split at h
  ·simp[Veu]
  ·simp_all
  ·simp at h
 | f::fs,i,l,l',h,hx,hy=>by
  cases l with
  |nil=>simp[Vdt]at h
  |cons x l=>
  cases l' with
  |nil=>simp[Vdt]at h
  | cons y l'=>
   simp only[Vdt]at h;simp only[Bool.and_eq_true,bne_iff_ne,ne_eq,beq_iff_eq]at h;obtain⟨⟨⟨h1,h2⟩,h3⟩,h4⟩:=h;simp only[RepL]at hx hy;obtain⟨u,us,hxe,hx1,hx2⟩:=hx;obtain⟨v,vs,hye,hy1,hy2⟩:=hy
   have gx:xs[i]? =some u:=by
    have:xs.toList[i]? =some u:=by rw[<-List.head?_drop,hxe];rfl
    simpa using this
   have gy:ys[i]? =some v:=by
    have:ys.toList[i]? =some v:=by rw[<-List.head?_drop,hye];rfl
    simpa using this
   have dx:us=xs.toList.drop (i+1):=by rw[<-List.tail_drop,hxe];rfl
   have dy:vs=ys.toList.drop (i+1):=by rw[<-List.tail_drop,hye];rfl
   subst dx dy;obtain⟨c1,c2⟩:=cell_equal (d:=d) h3 hx1 hy1
   have ih:=eq_loop (d:=d) fs (i+1) l l' h4 hx2 hy2
   have px:(part f.type xs i).run P w=.ok u w:=by simp[part,Vd5 c2,gx]
   have py:(part f.type ys i).run P w=.ok v w:=by simp[part,Vd5 c2,gy]
   simp only[Veu];cases hc:Vma x y
   ·simp[h1,h2,px,py,c1,hc]
   ·simp[h1,h2,px,py,c1,hc];simpa using ih
def aBinA(P:Program)(op:BinOp)(t:TypeId)(l l':List AV)(S:St):Option Res:=
 match P.underlying t with
 | some (.struct fs)=>if Vdt P fs.toList 0 l l'=true/\P.stoodInHeld t=false/\P.eqGuardType P.depth t=false then match op with
   | .eql=>some ⟨True,.av (.val (.bool (Veu l l'))),S⟩
   | .neq=>some ⟨True,.av (.val (.bool (!Veu l l'))),S⟩
   |_=>none
  else none
 |_=>none
theorem Vqg{P:Program}{t:TypeId}{fs:Array Field}{l l':List AV}{u v:Value}{U:Nat->Nat}{w:World}(hu:P.underlying t=some (.struct fs))(h1:Vdt P fs.toList 0 l l'=true)(h2:P.stoodInHeld t=false)(hx:Rep U w (.agg l) u)(hy:Rep U w (.agg l') v):
  (Op.equal t u v).run P w=.ok (Veu l l') w/\∃ xs ys,u=.agg xs/\v=.agg ys:=by
 simp only[Rep]at hx hy;obtain⟨xs,rfl,hx1,_⟩:=hx;obtain⟨ys,rfl,hy1,_⟩:=hy;refine⟨?_,xs,ys,rfl,rfl⟩
 have:=eq_loop (d:=9998) (xs:=xs) (ys:=ys) fs.toList 0 l l' h1 (by simpa using hx1) (by simpa using hy1);simp only[Op.equal,Op.maxDepth];rw[show(10000:Nat)=9998+1+1 from rfl,Op.equalIn];simp only[Sem.run_bind,Va0 hu,Result.andThen_ok];simp only[<-Array.forIn_toList];simp only[Sem.run_bind]at this ⊢;simpa[h2]using this
theorem sound_binA{P:Program}{o:Oper}{S:St}{op:BinOp}{t t':TypeId}{x y:Operand}{l l':List AV}{r:Res}(ho:o.op=.binOp op t x y t')(hx:S.ev x=.av (.agg l))(hy:S.ev y=.av (.agg l'))(h:aBinA P op t l l' S=some r):Sound P o S r:=by
 unfold aBinA at h
 split at h
 ·rename_i fs hu
  split at h
  ·rename_i hc;obtain⟨h1,h2,h3⟩:=hc
   split at h
   ·simp only[Za]at h;subst h;refine Sound.still λ_ G w ac hr=>?_
    have q1:=hr.ev x;rw[hx]at q1;simp only[RepS]at q1
    have q2:=hr.ev y;rw[hy]at q2;simp only[RepS]at q2;obtain⟨e1,xs,ys,e2,e3⟩:=Vqg hu h1 h2 q1 q2;refine⟨.bool (Veu l l'),?_,⟨rfl,rfl⟩⟩;rw[e2,e3]at e1;simp[execOp,ho,e2,e3,eqGuard,binOp,e1,h3]
   ·simp only[Za]at h;subst h;refine Sound.still λ_ G w ac hr=>?_
    have q1:=hr.ev x;rw[hx]at q1;simp only[RepS]at q1
    have q2:=hr.ev y;rw[hy]at q2;simp only[RepS]at q2;obtain⟨e1,xs,ys,e2,e3⟩:=Vqg hu h1 h2 q1 q2;refine⟨.bool (!Veu l l'),?_,⟨rfl,rfl⟩⟩;rw[e2,e3]at e1;simp[execOp,ho,e2,e3,eqGuard,binOp,e1,h3]
   ·simp at h
  ·simp at h
 ·simp at h
theorem Vhf{P:Program}{t e:TypeId}(ht:Vbb P t=some e):P.underlying t=some (.slice e):=by
 unfold Vbb at ht;split at ht
 ·rename_i hh;simp at ht;subst ht;exact hh
 ·simp at ht
theorem Von{P:Program}{o:Oper}{S:St}{x:Operand}{t:TypeId}{b n:Nat}(ho:o.op=.call {callee:=.builtin .len,args:=#[x],argTypes:=#[t]})(hx:S.ev x=.vs b n)(ht:Vg5 P t=true):Sound P o S ⟨True,.av (.val (.int .i64 n)),S⟩:=
 Sound.still λ_ G w a hr=>by
  have h1:=hr.ev x;rw[hx]at h1
  have⟨ad,cap,g1⟩:∃ ad cap,a.eval x=.slice ad n cap:=by
   rcases h1 with⟨rfl,h,_⟩|⟨blk,_,_,h,_⟩
   ·exact⟨_,_,h⟩
   ·exact⟨_,_,h⟩
  have⟨e,ht'⟩:∃ e,P.underlying t=some (.slice e):=by
   unfold Vg5 at ht;split at ht
   ·rename_i e h;exact⟨e,h⟩
   ·simp at ht
  obtain⟨c,hc⟩:=Vax (P:=P) (a:=a) ho w;exact⟨_,by rw[hc];simp[builtin,Builtin.len_,Va0 ht',g1,goInt],⟨rfl,rfl⟩⟩
theorem Vdp{P:Program}{o:Oper}{S:St}{t e:TypeId}{sz bt:Nat}{z:Option Value}{x ix:Operand}{b n:Nat}{k:IntKind}{i:Int}(ho:o.op=.indexAddr t x ix)(hx:S.ev x=.vs b n)(hix:S.ev ix=.av (.val (.int k i)))
  (ht:Vbb P t=some e) (hi:Vak P e=some (sz,bt,z)):Sound P o S ⟨0<=i/\i<n,.vp b sz i 0,S⟩:=
 Sound.still λ⟨hi0,hi1⟩ G w a hr=>by
  have h1:=hr.ev x;rw[hx]at h1
  have h2:=hr.ev ix;rw[hix]at h2;simp only[RepS,Rep]at h2;rcases h1 with⟨rfl,_,_⟩|⟨blk,_,g2,g3,g4⟩
  ·omega
  ·refine⟨.pointer (some ⟨blk,i.toNat*sz,none⟩),?_,⟨blk,g2,by simp⟩⟩;simp[execOp,ho,h2.1,g3,Instr.indexAt,asIntOf,Va0 (Vhf ht),Vab hi,hi0,hi1,Vba]
theorem Vh2{P:Program}{o:Oper}{S:St}{s f off:Nat}{ft:TypeId}{sz bt:Nat}{z:Option Value}{x:Operand}{b sv k:Nat}{i:Int}(ho:o.op=.fieldAddr s x f)(hx:S.ev x=.vp b sv i k)
  (h:Vjs P s f=some (off,ft)) (hs:Vak P ft=some (sz,bt,z)) (h0:sz≠0):Sound P o S ⟨True,.vp b sv i (k+off),S⟩:=
 Sound.still λ_ G w a hr=>by
  have h1:=hr.ev x;rw[hx]at h1;obtain⟨blk,h2,h3⟩:=h1;refine⟨_,by simp only[execOp,ho,h3,Sem.run_bind,Vgm h hs h0];rfl,⟨blk,h2,by rw[Z1]⟩⟩
theorem getD_some{l:List AV}{k:Nat}(h:k<l.length):l[k]? =some (l.getD k (.val undef)):=by simp[List.getD,List.getElem?_eq_getElem h]
theorem vec_at{G:Gh}{w:World}{id e sz:Nat}{l:List AV}(h:RepB G w id (.vec e sz l)){blk:Nat}(ho:G.ow (id,0)=some blk){i:Nat}(hi:i<l.length)(ht:(l.getD i (.val undef)).isTup=false):
  ∃u us,u.cells.toList=us/\Rep G.U w (l.getD i (.val undef)) u/\RepL G.U w (l.getD i (.val undef)).cells us/\(∀c∈us,c.oneCell'=true)/\us.length=sz/\∀ j v,us[j]? =some v->w.cell? ⟨blk,i*sz+j,none⟩=some v:=by
 rcases h with⟨rfl,_⟩|⟨blk',arr,es,h0,h1,h2,h3,h4,h5,h6,⟨rest,h7⟩,h8⟩
 ·simp at hi
 ·rw[ho]at h1;simp at h1;subst h1
  have hget:l[i]? =some (l.getD i (.val undef)):=by simp[List.getD,List.getElem?_eq_getElem hi]
  obtain⟨u,e1,e2⟩:=h5.get _ _ hget;obtain⟨c1,c2⟩:=e2.cells' ht
  have hm:u∈es:=Zs e1;refine⟨u,_,rfl,e2,c1,c2,by simpa using h6 u hm,λj v hj=>?_⟩
  have hv:=Vd4 es i u h6 e1 j v hj
  have:arr.toList[i*sz+j]? =some v:=by
   rw[h7,Zm]
   ·exact hv
   ·rcases Zr (i*sz+j) (Va1 es).length with q|q
    ·exact q
    ·rw[Zf q]at hv;cases hv
  simpa[World.cell?,h2]using this
theorem Vn4{P:Program}{o:Oper}{S:St}{t:TypeId}{x:Operand}{b sz k:Nat}{i:Int}{e:Nat}{l:List AV}(ho:o.op=.load t x)(hx:S.ev x=.vp b sz i k)(ht:tAgg P t=some false)(hb:S.bx.lookup b=some (.vec e sz l)):
  Sound P o S ⟨0<=i/\i<l.length/\k<(l.getD i.toNat (.val undef)).cells.length/\(l.getD i.toNat (.val undef)).isTup=false,.av ((l.getD i.toNat (.val undef)).cells.getD k (.val undef)),S⟩:=
 Sound.still λ⟨hi0,hi1,hk,htp⟩ G w a hr=>by
  have h1:=hr.ev x;rw[hx]at h1;obtain⟨blk,h2,h3⟩:=h1;obtain⟨u,us,q0,q1,q2,q3,q4,q5⟩:=vec_at (hr.bx _ (Vad hb)) h2 (i:=i.toNat) kv htp;obtain⟨v,e1,e2⟩:=q2.get _ _ (getD_some hk);exact⟨v,by simp[execOp,ho,h3,Instr.loadAt,Instr.sureAddr,Vb0 ht (q5 k v e1)],e2⟩
theorem Vhw{P:Program}{o:Oper}{S:St}{t:TypeId}{n bt:Nat}{z:Option Value}{x:Operand}{b sz k:Nat}{i:Int}{e:Nat}{l:List AV}(ho:o.op=.load t x)(hx:S.ev x=.vp b sz i k)(ht:tAgg P t=some true)(hti:Vak P t=some (n,bt,z))(hb:S.bx.lookup b=some (.vec e sz l)):
  Sound P o S ⟨0<=i/\i<l.length/\k+n<=(l.getD i.toNat (.val undef)).cells.length/\(l.getD i.toNat (.val undef)).isTup=false,.av (.agg (((l.getD i.toNat (.val undef)).cells.drop k).take n)),S⟩:=
 Sound.still λ⟨hi0,hi1,hk,htp⟩ G w a hr=>by
  have h1:=hr.ev x;rw[hx]at h1;obtain⟨blk,h2,h3⟩:=h1;obtain⟨u,us,q0,q1,q2,q3,q4,q5⟩:=vec_at (hr.bx _ (Vad hb)) h2 (i:=i.toNat) kv htp
  have hl:=q2.length
  have hc:∀ j v,((us.drop k).take n)[j]? =some v->w.cell? ⟨blk,(i.toNat*sz+k)+j,none⟩=some v:=by
   intro j v hj;rw[Zw]at hj
   split at hj
   ·simp only[Z5]at hj;have:=q5 _ v hj;rwa[Z1]
   ·simp at hj
  refine⟨.agg ((us.drop k).take n).toArray,by simp[execOp,ho,h3,Instr.loadAt,Instr.sureAddr,Vbg ht hti (vs:=(us.drop k).take n) (by simp;omega) hc],?_⟩;simp only[RepS,Rep];refine⟨_,rfl,(q2.drop k).take n,λy hy=>q3 y ?_⟩;exact Zh (Zg hy)
def AV.upd(x:AV)(k:Nat)(v:AV):AV:=match x with
 | .agg l=>.agg (l.take k++v.cells++l.drop (k+v.cells.length))
 |_=>v
theorem Vht{sz:Nat}:∀(es:List Value)(i:Nat)(u v:Value),(∀e∈es,e.cells.size=sz)->es[i]? =some u->Va1 (es.set i v)=(Va1 es).take (i*sz)++v.cells.toList++(Va1 es).drop (i*sz+sz)
 |[],i,u,v,_,h=>by simp at h
 |e::es,0,u,v,hs,h=>by
  have h1:=hs e ku;simp only[List.set_cons_zero,Va1,Zi,Nat.zero_mul,List.take_zero,List.nil_append,Nat.zero_add];rw[List.drop_append,Z9 (by simp[h1])];simp[h1]
 |e::es,i+1,u,v,hs,h=>by
  have h1:=hs e ku
  have ih:=Vht es i u v (λx hx=>hs x (by simp[hx])) (by simpa using h);simp only[List.set_cons_succ,Va1,Zi]at ih ⊢;rw[ih,List.take_append,List.drop_append];simp only[Zc,h1];rw[show(i+1)*sz-sz=i*sz by rw[Zp];omega,show(i+1)*sz+sz-sz=i*sz+sz by rw[Zp];omega,List.take_of_length_le (l:=e.cells.toList) (by simp only[Zc,h1,Zp];omega),Z9 (l:=e.cells.toList) (by simp only[Zc,h1,Zp];omega)];simp
theorem upd_rep{U:Nat->Nat}{w:World}{x v:AV}{u y:Value}{k:Nat}(hx:Rep U w x u)(hy:Rep U w v y)(hvt:v.isTup=false)(h0:0<v.cells.length)(hk:k+v.cells.length<=x.cells.length)(hxt:x.isTup=false):
  ∃u',Rep U w (x.upd k v) u'/\u'.cells.toList=u.cells.toList.take k++y.cells.toList++u.cells.toList.drop (k+y.cells.size)/\(x.upd k v).isTup=false:=by
 obtain⟨c1,c2⟩:=hx.cells' hxt;obtain⟨d1,d2⟩:=hy.cells' hvt
 have hl:=c1.length
 have hl2:=d1.length;simp only[Zc]at hl hl2;cases x with
 | agg l=>
  have hx':=hx;simp only[Rep]at hx';obtain⟨us,rfl,h2,h3⟩:=hx';refine⟨.agg (us.toList.take k++y.cells.toList++us.toList.drop (k+y.cells.size)).toArray,?_,by simp[Value.cells],rfl⟩;simp only[AV.upd,Rep];refine⟨_,rfl,?_,?_⟩
  ·simp only[];rw[<-hl2];exact((h2.take k).append d1).append (h2.drop _)
  ·intro z hz;simp only[Ze]at hz;rcases hz with(hz|hz)|hz
   ·exact h3 z (Zg hz)
   ·exact d2 z hz
   ·exact h3 z (Zh hz)
 |tup l=>simp[AV.isTup]at hxt
 |_=>
  have hk':k+v.cells.length<=1:=hk
  have hl':u.cells.size=1:=hl
  have hk0:k=0:=by omega
  subst hk0;refine⟨y,hy,?_,hvt⟩;rw[Z9 (by simp only[Zc];omega)];simp
theorem Vlk{P:Program}{o:Oper}{S:St}{t:TypeId}{n bt:Nat}{z:Option Value}{x y:Operand}{b sz k:Nat}{i:Int}{e:Nat}{l:List AV}{v:AV}(ho:o.op=.store t x y)(hx:S.ev x=.vp b sz i k)(hti:Vak P t=some (n,bt,z))
  (hy:(S.ev y).toAV=some v) (hb:S.bx.lookup b=some (.vec e sz l)):
  Sound P o S ⟨0<=i/\i<l.length/\k+n<=(l.getD i.toNat (.val undef)).cells.length/\(l.getD i.toNat (.val undef)).isTup=false/\v.isTup=false/\v.cells.length=n/\0<n,Vas,S.setBox b (.vec e sz (l.set i.toNat ((l.getD i.toNat (.val undef)).upd k v)))⟩:=by
 rintro⟨hi0,hi1,hk,htp,hvt,hvn,hn0⟩ G w a hr
 have h1:=hr.ev x;rw[hx]at h1;obtain⟨blk,h2,h3⟩:=h1
 have hv:=(hr.ev y).toAV hy
 have hilt:i.toNat<l.length:=by omega
 rcases hr.bx _ (Vad hb)with⟨rfl,_⟩|⟨blk',arr,es,g0,g1,g2,g3,g4,g5,g6,⟨rest,g7⟩,g8⟩
 ·simp at hilt
 simp only at g1;rw[h2]at g1;simp at g1;subst g1;obtain⟨u,e1,e2⟩:=g5.get _ _ (getD_some hilt)
 have hm:u∈es:=Zs e1
 have husz:=g6 u hm;obtain⟨c1,c2⟩:=e2.cells' htp;obtain⟨d1,d2⟩:=hv.cells' hvt
 have hcl:=c1.length
 have hdl:=d1.length;simp only[Zc]at hcl hdl;obtain⟨u',f1,f2,f3⟩:=upd_rep (k:=k) e2 hv hvt kv kv htp
 have hu'sz:u'.cells.size=sz:=by
  have:=congrArg Z7 f2;simp only[Zc,Zj,Z4,Yd]at this;omega
 have hvl:=Vac es g6
 have hel:=g5.length
 have hle:(i.toNat+1)*sz<=es.length*sz:=Zx _ kv;rw[Zp]at hle
 have harr:arr.size=(Va1 es).length+rest.length:=by simpa using congrArg Z7 g7
 have hst:=run_storeCells_at (P:=P) blk (i.toNat*sz+k) e (a.eval y).cells.toList 0 arr w g2 (by simp only[Zc];omega) d2;simp only[Nat.add_zero]at hst;obtain⟨s1,s2,s3⟩:=Vgg hr.wf h2 g2 g3 (arr.toList.take (i.toNat*sz+k)++(a.eval y).cells.toList++arr.toList.drop (i.toNat*sz+k+(a.eval y).cells.toList.length)).toArray
 have hper:∀ s u,RepS G w s u->RepS G (w.setRow blk (arr.toList.take (i.toNat*sz+k)++(a.eval y).cells.toList++arr.toList.drop (i.toNat*sz+k+(a.eval y).cells.toList.length)).toArray) s u:=
  λs u hs=>hs.persist s1.toExt (λ_ _=>rfl)
 have hsplit:Va1 (es.set i.toNat u')++rest=arr.toList.take (i.toNat*sz+k)++(a.eval y).cells.toList++arr.toList.drop (i.toNat*sz+k+(a.eval y).cells.toList.length):=by
  rw[Vht es _ u u' g6 e1,f2,g7]
  have hu:u.cells.toList=((Va1 es).drop (i.toNat*sz)).take sz:=by
   have hx1:=Vge es i.toNat g6
   have hx2:es.drop i.toNat=u::es.drop (i.toNat+1):=by
    have hlt:i.toNat<es.length:=by omega
    rw[List.drop_eq_getElem_cons hlt];rw[List.getElem?_eq_getElem hlt]at e1;simp only[Za]at e1;rw[e1]
   rw[<-hx1,hx2];simp only[Va1,Zi];rw[Ye (by simp[husz]),List.take_of_length_le (by simp[husz])]
  have hA:(Va1 es++rest).take (i.toNat*sz+k)=(Va1 es).take (i.toNat*sz)++u.cells.toList.take k:=by
   rw[Ye kv,hu,List.take_take,Nat.min_eq_left kv,List.take_add]
  have hB:(Va1 es++rest).drop (i.toNat*sz+k+(a.eval y).cells.toList.length)=u.cells.toList.drop (k+(a.eval y).cells.size)++(Va1 es).drop (i.toNat*sz+sz)++rest:=by
   simp only[Zc];rw[List.drop_append_of_le_length kv,hu];congr 1
   have hC:(Va1 es).drop (i.toNat*sz)=((Va1 es).drop (i.toNat*sz)).take sz++(Va1 es).drop (i.toNat*sz+sz):=by
    rw[<-List.drop_drop,List.take_append_drop]
   have:(Va1 es).drop (i.toNat*sz+k+(a.eval y).cells.size)=((Va1 es).drop (i.toNat*sz)).drop (k+(a.eval y).cells.size):=by rw[List.drop_drop,Z1]
   rw[this]
   conv=>lhs;rw[hC]
   rw[List.drop_append_of_le_length (by simp only[Z4,Yd];omega)]
  rw[hA,hB];simp only[List.append_assoc]
 refine⟨.skip,undef,_,G,?_,.inr ⟨rfl,rfl⟩,s1,⟨s2,hr.size,λt s ht=>hper _ _ (hr.fr t s ht),λp hp=>?_,hr.gn,hr.defers⟩,?_,λ_ _=>rfl⟩
 ·have hcs:(a.eval y).cells.size=n:=by omega
  simp[execOp,ho,h3,Instr.storeAt,Instr.sureAddr,storeVar,Vab hti,hcs];simp only[Zc,hcs]at hst;rw[hst];simp
 ·simp only[St.setBox,Zz]at hp;obtain⟨q,hq,rfl⟩:=hp
  split
  ·rename_i hqb;refine .inr ⟨blk,_,es.set i.toNat u',by simpa using g0,by rw[hqb];exact h2,setRow_heap w blk arr _ e _ g2,g3,?_,?_,?_,⟨rest,by simp only[];exact hsplit.symm⟩,?_⟩
   ·have:=congrArg Z7 hsplit;simp only[Zj]at this
    have h9:=Vac (es.set i.toNat u') (sz:=sz) (λx hx=>by
     rcases List.mem_or_eq_of_mem_set hx with hx|rfl
     ·exact g6 x hx
     ·exact hu'sz)
    simp only[Z8,Zj];rw[List.length_set]at h9;omega
   ·have:=RepL.mono s1.U s1.imm _ _ (g5.set i.toNat f1);exact this
   ·intro x hx;rcases List.mem_or_eq_of_mem_set hx with hx|rfl
    ·exact g6 x hx
    ·exact hu'sz
   ·intro c hc;rw[Vht es _ u u' g6 e1,f2]at hc;simp only[Ze]at hc;rcases hc with(hc|((hc|hc)|hc))|hc
    ·exact g8 c (Zg hc)
    ·exact c2 c (Zg hc)
    ·exact d2 c hc
    ·exact c2 c (Zh hc)
    ·exact g8 c (Zh hc)
  ·rename_i hqb;exact(hr.bx q hq).persist s1.toExt (s3 (q.1,0) (by simpa using hqb)) (λ_ _=>rfl)
 ·simp only[Vas,RepS,Rep];exact⟨#[],rfl,by simp[RepL]⟩
def SV.forget(b:Nat)(s:SV):SV:=match s.names b with
 |true=>.junk
 |false=>s
def ABox.forget(b:Nat):ABox->ABox
 | .cells t l=>.cells t (l.map (SV.forget b))
 | .mi ks l=>.mi ks (l.map (SV.forget b))
 |x=>x
def dropB(b:Nat):List (Nat×ABox)->List (Nat×ABox)
 |[]=>[]
 |p::l=>match p.1==b with
  |true=>dropB b l
  |false=>(p.1,p.2.forget b)::dropB b l
def St.forget(S:St)(b:Nat):St:=⟨S.fr.map (SV.forget b),dropB b S.bx,S.gn⟩
theorem Vfm(b:Nat)(s:SV):(s.forget b).names b=false:=by
 unfold SV.forget;split
 ·rfl
 ·rename_i h;exact h
theorem Vm6{G:Gh}{w:World}{b:Nat}{s:SV}{u:Value}(h:RepS G w s u):RepS G w (s.forget b) u:=by
 unfold SV.forget;split
 ·trivial
 ·exact h
theorem Vgq{G:Gh}{w:World}{b:Nat}:∀ {l:List SV} {us:List Value},RepSs G w l us->RepSs G w (l.map (SV.forget b)) us
 |[],_,h=>h
 |s::l,us,h=>by obtain⟨u,us',e,h1,h2⟩:=h;exact⟨u,us',e,Vm6 h1,Vgq h2⟩
theorem Vhh{b:Nat}:∀ {l:List (Nat×ABox)} {p:Nat×ABox},p∈dropB b l->∃ q∈l,q.1≠b/\p=(q.1,q.2.forget b)
 |[],p,h=>by simp[dropB]at h
 | q::l,p,h=>by
  unfold dropB at h
  split at h
  ·obtain⟨q',h1,h2⟩:=Vhh h;exact⟨q',by simp[h1],h2⟩
  ·rename_i hq;simp only[Z2]at h;rcases h with rfl|h
   ·exact⟨q,by simp,by simpa using hq,rfl⟩
   ·obtain⟨q',h1,h2⟩:=Vhh h;exact⟨q',by simp[h1],h2⟩
theorem forget_box{G:Gh}{w:World}{b id:Nat}{x:ABox}(h:RepB G w id x):RepB G w id (x.forget b):=by
 cases x with
 |cells t l=>obtain⟨blk,arr,h1,h2,h3,h4,h5⟩:=h;exact⟨blk,arr,h1,h2,h3,Vgq h4,h5⟩
 |mi ks l=>obtain⟨blk,ents,clock,h1,h2,h3,h4,h5,h6⟩:=h;exact⟨blk,ents,clock,h1,h2,h3,h4,Vgq h5,h6⟩
 |map ks vs=>exact h
 |vec e sz l=>exact h
 |ge n=>exact h
 |gl b vs=>exact h
 |it s pos=>exact h
 |vck e sz l=>exact h
theorem forget_svs(b:Nat)(x:ABox):(x.forget b).svs.any (SV.names b)=false:=by
 cases x with
 |cells t l=>simp only[ABox.forget,ABox.svs,List.any_map,Zl];intro s _;simpa using Vfm b s
 |mi ks l=>simp only[ABox.forget,ABox.svs,List.any_map,Zl];intro s _;simpa using Vfm b s
 |map ks vs=>rfl
 |vec e sz l=>rfl
 |ge n=>rfl
 |gl b vs=>rfl
 |it s pos=>rfl
 |vck e sz l=>rfl
theorem Vgr(S:St)(b:Nat):(S.forget b).names b=false:=by
 simp only[St.names,St.forget,Yf];refine⟨?_,?_⟩
 ·simp only[List.any_map,Zl];intro s _;simpa using Vfm b s
 ·rw[Zl];intro p hp;obtain⟨q,_,h1,rfl⟩:=Vhh hp;simp only[forget_svs,Bool.or_false];simpa using h1
theorem Rel.forget{G:Gh}{w:World}{S:St}{a:Act}(h:Rel G w S a)(b:Nat):Rel G w (S.forget b) a:=by
 refine⟨h.wf,by simp only[St.forget,List.length_map];exact h.size,λt s ht=>?_,λp hp=>?_,h.gn,h.defers⟩
 ·simp only[St.forget,Zv,Zb]at ht;obtain⟨s0,h1,rfl⟩:=ht;exact Vm6 (h.fr t s0 h1)
 ·obtain⟨q,hq,_,rfl⟩:=Vhh hp;exact forget_box (h.bx q hq)
theorem Rel.but{G G':Gh}{w w':World}{S:St}{a:Act}{id:Nat}(h:Rel G w S a)(hn:S.names id=false)(he:Ext G w G' w')(hw:Wf G' w')(hk:∀ κ,κ≠(id,0)->Keep G w G' w' κ)(hg:G'.gen=G.gen):Rel G' w' S a:=by
 simp only[St.names,Yf]at hn;obtain⟨n1,n2⟩:=hn
 have hne:∀ κ:Key,κ.1≠id->κ≠(id,0):=λκ hκ e=>hκ (by rw[e])
 refine⟨hw,h.size,λt s ht=>?_,λp hp=>?_,λk=>by rw[hg];exact h.gn k,h.defers.trans he.df.symm⟩
 ·have:s.names id=false:=by rw[Zl]at n1;simpa using n1 s (Zs ht)
  exact(h.fr t s ht).persist he (λκ hκ=>(hk κ (hne κ (Vby this κ hκ))).1)
 ·have hp':p.1≠id/\p.2.svs.any (SV.names id)=false:=by rw[Zl]at n2;simpa using n2 p hp
  refine(h.bx p hp).persist he (hk _ (hne _ hp'.1)) (λκ hκ=>?_);simp only[Zt]at hκ;obtain⟨s,hs,hs2⟩:=hκ
  have:s.names id=false:=by have:=hp'.2;rw[Zl]at this;simpa using this s hs
  exact(hk κ (hne κ (Vby this κ hs2))).1
theorem Rel.add{G:Gh}{w:World}{S:St}{a:Act}(h:Rel G w S a){id:Nat}{x:ABox}(hx:RepB G w id x):Rel G w (S.addBox id x) a:=by
 refine⟨h.wf,h.size,h.fr,λp hp=>?_,h.gn,h.defers⟩;simp only[St.addBox,Z2]at hp;rcases hp with rfl|hp
 ·exact hx
 ·exact h.bx p hp
def Gh.bindc(G:Gh)(id blk c:Nat):Gh:={G with ow:=λκ=>if κ=(id,0)then some blk else G.ow κ,cp:=λb=>if b=blk then c else G.cp b}
theorem step_bindc{G:Gh}{w:World}(hw:Wf G w)(o:Obj)(id c:Nat):
  Step G w (G.bindc id w.heap.size c) (w.drew.alloc o)/\Wf (G.bindc id w.heap.size c) (w.drew.alloc o)/\∀ κ,κ≠(id,0)->Keep G w (G.bindc id w.heap.size c) (w.drew.alloc o) κ:=by
 have hwd:Wf G w.drew:=⟨hw.inj,hw.lt,hw.zero⟩
 obtain⟨s1,s2,s3⟩:=Ve4 hwd o id;exact⟨⟨⟨s1.U,⟨s1.imm.cell,s1.imm.map,s1.imm.typ,s1.imm.frz,s1.imm.pln⟩,s1.size,s1.os,s1.tape,s1.output,λb hb=>by simp only[Gh.bindc];rw[if_neg kv],s1.gen,λκ h0 hg=>s1.tok κ h0 hg⟩,s1.stay,s1.rng⟩,⟨s2.inj,s2.lt,s2.zero⟩,λκ hκ=>s3 κ hκ⟩
theorem append_vs{P:Program}{t t2 ty e:TypeId}{sz bt:Nat}{z:Value}(ht:Vbb P t=some e)(h2:Vdr P t2=true)(hi:Vak P e=some (sz,bt,some z))(hz:z.cells.size=sz)(hbt:0<bt)
  {G:Gh} {w:World} {S:St} {a:Act} {b n:Nat} {l l':List AV} {u x:Value} {es':List Value} (hr:Rel G w S a) (hv:RepS G w (.vs b n) u) (hb:S.bx.lookup b=some (.vec e sz l)) (hn:n<=l.length) (hx:Src P w G.U sz x l' es') (hu:Uni sz l')
  (hbd:(n+l'.length)*bt<=140737488355328):
  ∃v w' G',(Builtin.append_ #[t,t2] ty #[u,x]).run P w=.ok v w'/\Step G w G' w'/\Rel G' w' ((S.forget b).addBox b (.vec e sz (l.take n++l'))) a/\RepS G' w' (.vs b (n+l'.length)) v/\∀ i,i≠b->G'.ow (i,0)=G.ow (i,0):=by
 have hes':=hu.sizes hx.rep
 have h1':=hx.rep.cells hu
 have hl2:=Vac es' hes'
 have hll':=hx.rep.length
 have hf:=hr.forget b
 have hfree:=Vgr S b
 have grow:∀(ad:Option Addr)(cap:Nat)(es:List Value),cap<n+l'.length->u=.slice ad n cap->RepL G.U w (l.take n) es->(∀x∈es,x.cells.size=sz)->(∀c∈Va1 es,c.oneCell'=true)->
   (∀w',w'.heap=w.heap->(Builtin.firstCells sz n (.slice ad n cap)).run P w'=.ok (Va1 es).toArray w')->
   ∃v w' G',(Builtin.append_ #[t,t2] ty #[u,x]).run P w=.ok v w'/\Step G w G' w'/\Rel G' w' ((S.forget b).addBox b (.vec e sz (l.take n++l'))) a/\RepS G' w' (.vs b (n+l'.length)) v/\∀ i,i≠b->G'.ow (i,0)=G.ow (i,0):=by
  intro ad cap es hlt hu' hre hs hone hfirst
  have hel:=hre.length;simp only[Z4]at hel
  have hl1:=Vac es hs;obtain⟨nc,rest,q1,q2,q3⟩:=Vc9 (ty:=ty) ht h2 hi hz hbt (w:=w) (a:=ad) (n:=n) (cap:=cap) (m:=l'.length) (x:=x) (olds:=Va1 es) (news:=Va1 es') (hx.len w rfl) hfirst (λw' hw=>hx.cells w' hw) hlt hbd;obtain⟨s1,s2,s3⟩:=step_bindc hr.wf (.cells (Va1 es++Va1 es'++rest).toArray e) b nc;refine⟨_,_,_,by rw[hu'];exact q3,s1,(hf.but hfree s1.toExt s2 s3 rfl).add ?_,?_,λi hi=>by simp only[Gh.bindc];rw[if_neg (λh=>hi (by simpa using h))]⟩
  ·refine .inr ⟨w.heap.size,_,es++es',by simp,by simp[Gh.bindc],Vat w.drew _,hr.wf.zero _ (Nat.le_refl _),?_,(RepL.mono s1.U s1.imm _ _ hre).append (RepL.mono s1.U s1.imm _ _ hx.rep),?_,⟨rest,by simp[Vaw]⟩,?_⟩
   ·simp only[Gh.bindc,if_true,Z8,Zj,hl1,hl2,q2,hll',hel];rw[Nat.min_eq_left hn, <-Z3, <-Z3];exact Zx _ kv
   ·intro x hx;rcases Ze.1 hx with h|h
    ·exact hs x h
    ·exact hes' x h
   ·rw[Vaw];intro c hc;rcases Ze.1 hc with h|h
    ·exact hone c h
    ·exact h1' c h
  ·exact .inr ⟨w.heap.size,by simp,by simp[Gh.bindc],by simp[Gh.bindc],by simpa[Gh.bindc]using q1⟩
 have hbox:=hr.bx _ (Vad hb);rcases hv with⟨rfl,rfl,how⟩|⟨blk,v0,v1,rfl,v3⟩
 ·by_cases hm:l'.length=0
  ·have hl'0:l'=[]:=Zk.1 hm
   have e1:=hx.len w rfl
   have e2:=hx.cells w rfl;rw[hm]at e1 e2;subst hl'0;exact⟨.slice none 0 0,w,G,Vff (ty:=ty) ht h2 hi (w:=w) (x:=x) e1 e2,Step.refl G w,hf.add (.inl ⟨by simp,how⟩),.inl ⟨rfl,rfl,how⟩,λ_ _=>rfl⟩
  ·exact grow none 0 [] kv rfl (by simp[RepL]) ku (by simp[Va1]) (λw' hw=>by simp[Builtin.firstCells,Va1])
 ·rcases hbox with⟨_,h⟩|⟨blk',arr,es,g0,g1,g2,g3,g4,g5,g6,⟨rest,g7⟩,g8⟩
  ·simp only at h;rw[v1]at h;cases h
  simp only at g1;rw[v1]at g1;simp at g1;subst g1
  have hst':=g5.take n
  have hts:∀ x∈es.take n,x.cells.size=sz:=λx hx=>g6 x (Zg hx)
  have htake:=Veg es n g6
  have hone:∀ c∈Va1 (es.take n),c.oneCell'=true:=by rw[htake];exact λc hc=>g8 c (Zg hc)
  have hel:=g5.length
  have hl1:=Vac es g6
  have hnlen:n*sz<=(Va1 es).length:=by rw[hl1];exact Zx _ kv
  have harr:arr.size=(Va1 es).length+rest.length:=by simpa using congrArg Z7 g7
  by_cases hle:n+l'.length<=G.cp blk
  ·have hmul:(n+l'.length)*sz<=G.cp blk*sz:=Zx _ hle;rw[Z3]at hmul
   have hst:=run_storeCells_at (P:=P) blk (0+n*sz) e (Va1 es') 0 arr w g2 (by rw[hl2,hll'];omega) h1';simp only[Nat.add_zero]at hst;simp only[Nat.zero_add]at hst;obtain⟨s1,s2,s3⟩:=Vgg hr.wf v1 g2 g3 (arr.toList.take (n*sz)++Va1 es'++arr.toList.drop (n*sz+(Va1 es').length)).toArray;refine⟨_,_,G,Vbi (ty:=ty) ht h2 hi (hx.len w rfl) (hx.cells w rfl) hle (by simp only[Nat.zero_add];exact hst),s1,(hf.but hfree s1.toExt s2 s3 rfl).add ?_,.inr ⟨blk,by simpa using v0,v1,rfl,hle⟩,λ_ _=>rfl⟩;refine .inr ⟨blk,_,es.take n++es',by simpa using g0,v1,setRow_heap w blk arr _ e _ g2,g3,?_,(RepL.mono s1.U s1.imm _ _ hst').append (RepL.mono s1.U s1.imm _ _ hx.rep),?_,⟨arr.toList.drop (n*sz+(Va1 es').length),?_⟩,?_⟩
   ·simp only[Z8,Zj,Z4,Yd,Zc,hl2,hll'];omega
   ·intro x hx;rcases Ze.1 hx with h|h
    ·exact hts x h
    ·exact hes' x h
   ·simp only[];rw[Vaw,htake,g7,Ye hnlen]
   ·rw[Vaw];intro c hc;rcases Ze.1 hc with h|h
    ·exact hone c h
    ·exact h1' c h
  ·refine grow _ _ (es.take n) kv rfl hst' hts hone (λw' hw=>?_);refine run_firstCells_some w' sz n _ n _ (Va1 (es.take n)) (by rw[htake,Z4];omega) (λj v hj=>?_);rw[Vba,Vq7 hw]
   have hj2:arr.toList[j]? =some v:=by
    rw[htake,Zw]at hj
    split at hj
    ·rename_i hlt;rw[g7,Zm kv];exact hj
    ·cases hj
   simpa[World.cell?,g2]using hj2
theorem Vlm{P:Program}{o:Oper}{S:St}{t e:TypeId}{sz bt:Nat}{z:Option Value}{x:Operand}{lo hi:Option Operand}{b n:Nat}{k k':IntKind}{i j:Int}(ho:o.op=.slice t x lo hi none)(hx:S.ev x=.vs b n)
  (hlo:Vaz S 0 k i lo) (hhi:Vaz S n k' j hi) (ht:Vbb P t=some e) (hti:Vak P e=some (sz,bt,z)):Sound P o S ⟨i=0/\0<=j/\j<=n,.vs b j.toNat,S⟩:=
 Sound.still λ⟨hi0,hj0,hjn⟩ G w a hr=>by
  subst hi0
  have h1:=hr.ev x;rw[hx]at h1
  have ht':=Vhf ht
  have⟨ad,cap,g1,hcap,hshape⟩:∃ ad cap,a.eval x=.slice ad n cap/\n<=cap/\((cap=0/\ad=none/\n=0/\G.ow (b,0)=none)\/∃ blk,blk<w.heap.size/\G.ow (b,0)=some blk/\ad=some ⟨blk,0,none⟩/\cap=G.cp blk):=by
   rcases h1 with⟨rfl,h,h'⟩|⟨blk,h0,h,h',h''⟩
   ·exact⟨none,0,h,Nat.le_refl _,.inl ⟨rfl,rfl,rfl,h'⟩⟩
   ·exact⟨_,_,h',h'',.inr ⟨blk,h0,h,rfl,rfl⟩⟩
  have hjc:j<=(cap:Int):=by omega
  refine⟨.slice (if cap=0 then ad else ad.map (·.add (0*sz))) (j.toNat-0) (cap-0),?_,?_⟩
  ·cases lo with
   | none=>
    simp only[Vaz]at hlo;cases hi with
    |none=>simp only[Vaz]at hhi;subst hhi;simp[execOp,ho,g1,Instr.sliceAt,Instr.slice,Va0 ht',Instr.sliceBounds,Vab hti]
    |some y=>
     simp only[Vaz]at hhi
     have h2:=hr.ev y;rw[hhi]at h2;simp only[RepS,Rep]at h2;simp[execOp,ho,g1,h2.1,Instr.sliceAt,Instr.slice,Va0 ht',Instr.sliceBounds,Instr.sliceBound,asIntOf,hj0,hjc,Vab hti]
   | some y'=>
    simp only[Vaz]at hlo
    have h3:=hr.ev y';rw[hlo]at h3;simp only[RepS,Rep]at h3;cases hi with
    |none=>
     simp only[Vaz]at hhi;subst hhi;simp[execOp,ho,g1,h3.1,Instr.sliceAt,Instr.slice,Va0 ht',Instr.sliceBounds,Instr.sliceBound,asIntOf,Vab hti]
    |some y=>
     simp only[Vaz]at hhi
     have h2:=hr.ev y;rw[hhi]at h2;simp only[RepS,Rep]at h2;simp[execOp,ho,g1,h2.1,h3.1,Instr.sliceAt,Instr.slice,Va0 ht',Instr.sliceBounds,Instr.sliceBound,asIntOf,hj0,hjc,Vab hti]
  ·rcases hshape with⟨rfl,rfl,rfl,h⟩|⟨blk,h0,h,rfl,rfl⟩
   ·exact .inl ⟨by omega,by simp;omega,h⟩
   ·refine .inr ⟨blk,h0,h,?_,by omega⟩
    have:(if G.cp blk=0 then(some ⟨blk,0,none⟩:Option Addr)else(some ⟨blk,0,none⟩:Option Addr).map (·.add (0*sz)))=some ⟨blk,0,none⟩:=by
     split
     ·rfl
     ·simp[Vba]
    rw[this];simp
theorem Vom{P:Program}{o:Oper}{S:St}{x:Operand}{t:TypeId}{b sz k n:Nat}(ho:o.op=.call {callee:=.builtin .len,args:=#[x],argTypes:=#[t]})(hx:S.ev x=.vw b sz k n)(ht:Vg5 P t=true):Sound P o S ⟨True,.av (.val (.int .i64 n)),S⟩:=
 Sound.still λ_ G w a hr=>by
  have h1:=hr.ev x;rw[hx]at h1;obtain⟨ad,cap,g1,_⟩:=h1
  have⟨e,ht'⟩:∃ e,P.underlying t=some (.slice e):=by
   unfold Vg5 at ht;split at ht
   ·rename_i e h;exact⟨e,h⟩
   ·simp at ht
  obtain⟨c,hc⟩:=Vax (P:=P) (a:=a) ho w;exact⟨_,by rw[hc];simp[builtin,Builtin.len_,Va0 ht',g1,goInt],⟨rfl,rfl⟩⟩
theorem Vdo{P:Program}{o:Oper}{S:St}{t e:TypeId}{sz bt:Nat}{z:Option Value}{x ix:Operand}{b q n:Nat}{k:IntKind}{i:Int}(ho:o.op=.indexAddr t x ix)(hx:S.ev x=.vw b sz q n)(hix:S.ev ix=.av (.val (.int k i)))
  (ht:Vbb P t=some e) (hi:Vak P e=some (sz,bt,z)):Sound P o S ⟨0<=i/\i<n,.vp b sz ((q:Nat)+i) 0,S⟩:=
 Sound.still λ⟨hi0,hi1⟩ G w a hr=>by
  have h1:=hr.ev x;rw[hx]at h1
  have h2:=hr.ev ix;rw[hix]at h2;simp only[RepS,Rep]at h2;obtain⟨ad,cap,g1,g2,g3⟩:=h1;rcases g3 with rfl|⟨blk,g3,rfl⟩
  ·omega
  ·refine⟨.pointer (some ⟨blk,q*sz+i.toNat*sz,none⟩),?_,⟨blk,g3,?_⟩⟩
   ·simp[execOp,ho,h2.1,g1,Instr.indexAt,asIntOf,Va0 (Vhf ht),Vab hi,hi0,hi1,Vba]
   ·rw[show((q:Nat)+i:Int).toNat=q+i.toNat by omega,Z3,Nat.add_zero]
theorem Vll{P:Program}{o:Oper}{S:St}{t e:TypeId}{sz bt:Nat}{z:Option Value}{x y':Operand}{hi:Option Operand}{b n:Nat}{k k':IntKind}{i j:Int}(ho:o.op=.slice t x (some y') hi none)(hx:S.ev x=.vs b n)
  (hlo:Vaz S 0 k i (some y')) (hhi:Vaz S n k' j hi) (ht:Vbb P t=some e) (hti:Vak P e=some (sz,bt,z)):Sound P o S ⟨0<=i/\i<=j/\j<=n,.vw b sz i.toNat (j.toNat-i.toNat),S⟩:=
 Sound.still λ⟨hi0,hij,hjn⟩ G w a hr=>by
  have h1:=hr.ev x;rw[hx]at h1
  have ht':=Vhf ht
  have⟨ad,cap,g1,hcap,hshape⟩:∃ ad cap,a.eval x=.slice ad n cap/\n<=cap/\(n=0\/∃ blk,G.ow (b,0)=some blk/\ad=some ⟨blk,0,none⟩):=by
   rcases h1 with⟨rfl,h,h'⟩|⟨blk,h0,h,h',h''⟩
   ·exact⟨none,0,h,Nat.le_refl _,.inl rfl⟩
   ·exact⟨_,_,h',h'',.inr ⟨blk,h,rfl⟩⟩
  have hjc:j<=(cap:Int):=by omega
  have hic:i<=(cap:Int):=by omega
  have hj0:0<=j:=by omega
  refine⟨.slice (if cap=i.toNat then ad else ad.map (·.add (i.toNat*sz))) (j.toNat-i.toNat) (cap-i.toNat),?_,?_⟩
  ·simp only[Vaz]at hlo
   have h3:=hr.ev y';rw[hlo]at h3;simp only[RepS,Rep]at h3;cases hi with
   |none=>
    simp only[Vaz]at hhi;subst hhi
    have:(i.toNat:Int)=i:=by omega
    simp[execOp,ho,g1,h3.1,Instr.sliceAt,Instr.slice,Va0 ht',Instr.sliceBounds,Instr.sliceBound,asIntOf,Vab hti,hi0,hij,hjc,hic]
   |some y=>
    simp only[Vaz]at hhi
    have h2:=hr.ev y;rw[hhi]at h2;simp only[RepS,Rep]at h2
    have hm:max j 0=j:=by omega
    have hm2:¬ j<i:=by omega
    simp[execOp,ho,g1,h2.1,h3.1,Instr.sliceAt,Instr.slice,Va0 ht',Instr.sliceBounds,Instr.sliceBound,asIntOf,hj0,hjc,hi0,hij,Vab hti,hm,hm2]
  ·refine⟨_,_,rfl,by omega,?_⟩
   by_cases h0:j.toNat-i.toNat=0
   ·exact .inl h0
   ·rcases hshape with rfl|⟨blk,h4,rfl⟩
    ·omega
    ·refine .inr ⟨blk,h4,?_⟩;rw[if_neg kv];simp[Vba]
def Viy(P:Program)(s:TypeId)(v:SV)(f:Nat)(S:St):Option Res:=
 match Vjs P s f with
 | some (off,ft)=>match Vak P ft with
  |some (sz,_,_)=>if sz=0 then none else match v with
   | .ptr b k=>some ⟨True,.ptr b (k+off),S⟩
   | .av (.ro l k)=>some ⟨True,.av (.ro l (k+off)),S⟩
   | .vp b s i k=>some ⟨True,.vp b s i (k+off),S⟩
   |_=>none
  |none=>none
 |none=>none
def Vin(P:Program)(t:TypeId)(v:SV)(S:St):Option Res:=
 match tAgg P t with
 | some false=>match v with
  | .ptr b k=>match S.bx.lookup b with
   |some (.cells ty l)=>(l[k]?).map (λs=>⟨True,s,S⟩)
   |_=>none
  | .av (.ro l k)=>(l[k]?).map (λs=>⟨True,.av s,S⟩)
  |_=>none
 | some true=>match Vak P t with
  | some (sz,_,_)=>match v with
   | .ptr b k=>match S.bx.lookup b with
    | some (.cells ty l)=>match((l.drop k).take sz).any SV.isTok with
     |true=>match SV.allCV ((l.drop k).take sz)with
      |some r=>if r.length=sz then some ⟨True,.ag r,S⟩else none
      |none=>none
     |false=>match SV.allAV ((l.drop k).take sz)with
      |some r=>if r.length=sz then some ⟨True,.av (.agg r),S⟩else none
      |none=>none
    |_=>none
   | .av (.ro l k)=>if k+sz<=l.length then some ⟨True,.av (.agg ((l.drop k).take sz)),S⟩else none
   |_=>none
  |none=>none
 |none=>none
def Vqi(P:Program)(t:TypeId)(v x:SV)(S:St):Option Res:=
 match Vak P t with
 | some (sz,_,_)=>match v with
  | .ptr b k=>match S.bx.lookup b,x.cells with
   |some (.cells ty l),some xs=>if xs.length=sz/\k+sz<=l.length then some ⟨True,Vas,S.setBox b (.cells ty (l.take k++xs++l.drop (k+xs.length)))⟩else none
   |_,_=>none
  | .vp b s i k=>match S.bx.lookup b,x.toAV with
   |some (.vec e s' l),some v=>if s'=s then some ⟨0<=i/\i<l.length/\k+sz<=(l.getD i.toNat (.val undef)).cells.length/\(l.getD i.toNat (.val undef)).isTup=false/\v.isTup=false/\v.cells.length=sz/\0<sz,Vas,S.setBox b (.vec e s (l.set i.toNat ((l.getD i.toNat (.val undef)).upd k v)))⟩else none
   |_,_=>none
  |_=>none
 |none=>none
def Vqo(P:Program)(d:Option Tmp)(t:TypeId)(S:St):Option Res:=
 match d,Vak P t with
 |some id,some (_,_,some z)=>if z.cells.toList.all (λc=>c.oneCell')/\id<1000/\S.names id=false then some ⟨True,.ptr id 0,S.addBox id (.cells t (zeroCells z))⟩else none
 |_,_=>none
def aBox(d:Option Tmp)(t:TypeId)(x:SV)(S:St):Option Res:=
 match d,x.cells with
 |some id,some xs=>if id<1000/\S.names id=false/\xs.all (λs=> !s.names id)=true then some ⟨True,.ptr id 0,S.addBox id (.cells t xs)⟩else none
 |_,_=>none
def Vqn(P:Program)(t:TypeId)(parts:List (Nat×Operand))(S:St):Option Res:=
 match Vak P t,Vmz P t,Vdz S parts with
 |some (_,_,some z),some pl,some ps=>if z.cells.toList.all (λc=>c.oneCell')then(aFill pl (z.cells.toList.map Vdi) ps).map (λr=>⟨True,.av (.agg r),S⟩)else none
 |_,_,_=>none
def Vbz(P:Program)(t:TypeId)(n:Nat)(parts:List (Nat×Operand))(S:St):Option Res:=
 match Vbb P t with
 |some e=>match Vak P e,Vcw S (parts.map (·.2))with
  |some (sz,_,some _),some ps=>if parts.map (·.1)=Yc n/\n*sz<=16777216 then some ⟨Uni sz ps,(match sz with|2=>.clo ps|_=>.av (.sl ps)),S⟩else none
  |_,_=>none
 |none=>none
def Vec(P:Program)(t:TypeId)(x i:SV)(S:St):Option Res:=
 match x,i,Vbb P t with
 | .vs b n,.av (.val (.int _ i)),some e=>match Vak P e with
  |some (sz,_,_)=>some ⟨0<=i/\i<n,.vp b sz i 0,S⟩
  |none=>none
 | .vw b sz' q n,.av (.val (.int _ i)),some e=>match Vak P e with
  |some (sz,_,_)=>if sz'=sz then some ⟨0<=i/\i<n,.vp b sz ((q:Nat)+i) 0,S⟩else none
  |none=>none
 |_,_,_=>match Vbb P t with
 |some e=>match Vak P e,x.toAV,i with
  |some (sz,_,_),some (.sl l),.av (.val (.int _ i))=>if 0<sz then some ⟨0<=i/\i<l.length/\(l.getD i.toNat (.val undef)).cells.length=sz/\(l.getD i.toNat (.val undef)).isTup=false,.av (.ro (l.getD i.toNat (.val undef)).cells 0),S⟩else none
  |_,_,_=>none
 | none=>match x,i,tArr P t with
  | .ptr b o,.av (.val (.int _ i)),some (n,e)=>match Vak P e with
   |some (sz,_,_)=>some ⟨0<=i/\i<n,.ptr b (o+i.toNat*sz),S⟩
   |none=>none
  |_,_,_=>none
theorem Vd9{P:Program}{o:Oper}{S:St}{t e:TypeId}{n sz bt:Nat}{zz:Option Value}{x ix:Operand}{b k:Nat}{kk:IntKind}{i:Int}(ho:o.op=.indexAddr t x ix)(hx:S.ev x=.ptr b k)(hix:S.ev ix=.av (.val (.int kk i)))(ht:tArr P t=some (n,e))(hi:Vak P e=some (sz,bt,zz)):
  Sound P o S ⟨0<=i/\i<n,.ptr b (k+i.toNat*sz),S⟩:=
 Sound.still λ⟨hi0,hi1⟩ G w a hr=>by
  have h1:=hr.ev x;rw[hx]at h1;obtain⟨blk,h2,h3⟩:=h1
  have h4:=hr.ev ix;rw[hix]at h4;simp only[RepS,Rep]at h4
  have hu:P.underlying t=some (.array n e):=by
   unfold tArr at ht;split at ht
   ·rename_i n' e' h;simp only[Za,Zd]at ht;obtain⟨rfl,rfl⟩:=ht;exact h
   ·simp at ht
  refine⟨.pointer (some ⟨blk,k+i.toNat*sz,none⟩),?_,⟨blk,h2,rfl⟩⟩;simp[execOp,ho,h3,h4.1,Instr.indexAt,asIntOf,Va0 hu,Instr.sureAddr,Vab hi,hi0,hi1,Vba]
def Vqm(P:Program)(t:TypeId)(x i:SV)(S:St):Option Res:=
 match x,i with
 | .av (.val (.string s)),.av (.val (.int _ i))=>if tStr P t=true then some ⟨0<=i/\i<s.size,.av (.val (.int .u8 ((s.data.getD i.toNat 0).toNat:Nat))),S⟩else none
 | .av (.agg l),.av (.val (.int _ i))=>match tArr P t with
  |some (n,e)=>match Vak P e,tAgg P e with
   |some (sz,_,_),some ag=>some ⟨0<=i/\i<n/\i.toNat*sz+sz<=l.length/\0<sz,.av (arrElt ag l (i.toNat*sz) sz),S⟩
   |_,_=>none
  |none=>none
 |_,_=>none
def Vhn(d:Int):Option SV->Option Int
 |none=>some d
 |some (.av (.val (.int _ i)))=>some i
 |_=>none
def Vqj(P:Program)(t:TypeId)(x:SV)(lo hi:Option SV)(S:St):Option Res:=
 match x with
 | .vs b n=>match Vbb P t with
  | some e=>match Vak P e,Vhn 0 lo,Vhn n hi with
   |some (sz,_,_),some i,some j=>match lo with
    |none=>some ⟨i=0/\0<=j/\j<=n,.vs b j.toNat,S⟩
    |some _=>some ⟨0<=i/\i<=j/\j<=n,.vw b sz i.toNat (j.toNat-i.toNat),S⟩
   |_,_,_=>none
  |none=>none
 |_=>match x.toAV with
 |some (.val (.string s))=>match Vhn 0 lo,Vhn s.size hi with
  |some i,some j=>if tStr P t=true then some ⟨0<=i/\i<=j/\j<=s.size,.av (.val (.string (s.extract i.toNat j.toNat))),S⟩else none
  |_,_=>none
 | some (.sl l)=>match Vbb P t with
  |some e=>match Vak P e,Vhn 0 lo,Vhn l.length hi with
   |some (sz,_,_),some i,some j=>some ⟨0<=i/\i<=j/\j<=l.length/\Uni sz l,.av (.sl ((l.drop i.toNat).take (j.toNat-i.toNat))),S⟩
   |_,_,_=>none
  |none=>none
 |_=>none
def aSrc(sz:Nat)(x:SV):Option (List AV):=
 match x.toAV with
 |some (.sl l)=>some l
 |some (.val (.string s))=>if sz=1 then some (Va8 s)else none
 |_=>none
def Vfu(P:Program)(d:Option Tmp)(t t2:TypeId)(x y:SV)(S:St):Option Res:=
 match Vbb P t,d with
 | some e,some d=>match Vak P e with
  | some (sz,bt,some z)=>if z.cells.size=sz/\0<bt/\Vdr P t2=true then match aSrc sz y with
    | some l'=>match x with
     | .own k g sz' l=>if sz'=sz/\e+1=k.2 then some ⟨S.gen k=g/\Uni sz l'/\(l.length+l'.length)*bt<=140737488355328,.own k (g+1) sz (l++l'),S.next k⟩else none
     | .vs b n=>match S.bx.lookup b with
      |some (.vec e' sz' l)=>if e'=e/\sz'=sz/\(b<1000\/2000<=b)then some ⟨n<=l.length/\Uni sz l'/\(n+l'.length)*bt<=140737488355328,.vs b (n+l'.length),(S.forget b).addBox b (.vec e sz (l.take n++l'))⟩else none
      |_=>none
     | .clo l=>some ⟨Uni sz l/\Uni sz l'/\(l.length+l'.length)*bt<=140737488355328,.av (.sl (l++l')),S⟩
     | .nil=>some ⟨Uni sz l'/\l'.length*bt<=140737488355328,.own (d,e+1) (S.gen (d,e+1)+1) sz l',S.next (d,e+1)⟩
     |_=>none
    |none=>none
   else none
  |_=>none
 |_,_=>none
def aLen(P:Program)(t:TypeId)(x:SV)(S:St):Option Res:=
 match x with
 | .vs b n=>if Vg5 P t=true then some ⟨True,.av (.val (.int .i64 n)),S⟩else none
 | .vw b sz q n=>if Vg5 P t=true then some ⟨True,.av (.val (.int .i64 n)),S⟩else none
 |_=>match x.toAV with
 |some (.val (.string s))=>if tStr P t=true then some ⟨True,.av (.val (.int .i64 s.size)),S⟩else none
 |some (.sl l)=>if Vg5 P t=true then some ⟨True,.av (.val (.int .i64 l.length)),S⟩else none
 |_=>none
def Vdv(P:Program)(d:Option Tmp)(b:Builtin)(args:List Operand)(tys:List TypeId)(S:St):Option Res:=
 match b,args,tys with
 | .len,[x],[t]=>aLen P t (S.ev x) S
 | .append,[x,y],[t,t2]=>Vfu P d t t2 (S.ev x) (S.ev y) S
 | .max,[x,y],_=>match S.ev x,S.ev y with
  | .av (.val (.int k i)),.av (.val (.int k' j))=>if k=k' then some ⟨True,.av (.val (.int k (max i j))),S⟩else none
  |_,_=>none
 | .max,[x,y,z],_=>match S.ev x,S.ev y,S.ev z with
  | .av (.val (.int k i)),.av (.val (.int k' j)),.av (.val (.int k'' l))=>if k=k'/\k=k'' then some ⟨True,.av (.val (.int k (max (max i j) l))),S⟩else none
  |_,_,_=>none
 | .min,[x,y],_=>match S.ev x,S.ev y with
  | .av (.val (.int k i)),.av (.val (.int k' j))=>if k=k' then some ⟨True,.av (.val (.int k (min i j))),S⟩else none
  |_,_=>none
 | .clear,[x],[t]=>match S.ev x,tMap P t with
  | .mp b,some _=>match S.bx.lookup b with
   |some (.map _ _)=>some ⟨True,Vas,S.setBox b (.map [] [])⟩
   |_=>none
  |_,_=>none
 |_,_,_=>none
def aBinB(P:Program)(op:BinOp)(t:TypeId)(a b:Bool)(S:St):Option Res:=
 match P.underlying t with
 |some .bool=>match op with
  | .eql=>some ⟨True,.av (.val (.bool (a==b))),S⟩
  | .neq=>some ⟨True,.av (.val (.bool (a !=b))),S⟩
  |_=>none
 |_=>none
def aBinS(P:Program)(op:BinOp)(t:TypeId)(x y:SV)(S:St):Option Res:=
 match x,y with
 | .av (.val (.bool a)),.av (.val (.bool b))=>aBinB P op t a b S
 | .av (.val u),.av (.val v)=>(aBin op u v).map (λq=>⟨q.1,.av (.val q.2),S⟩)
 | .av (.agg l),.av (.agg l')=>aBinA P op t l l' S
 |_,_=>none
def aUnS(op:UnOp)(x:SV)(S:St):Option Res:=
 match x with
 | .av (.val u)=>(aUn op u).map (λq=>⟨True,.av (.val q),S⟩)
 |_=>none
def aPick(c x y:SV)(S:St):Option Res:=
 match c with
 | .av (.val (.bool p))=>some ⟨True,if p then x else y,S⟩
 |_=>none
def Vf1(x:SV)(i:Nat)(S:St):Option Res:=
 match x with
 | .av (.tup l)=>(l[i]?).map (λy=>⟨True,.av y,S⟩)
 | .tp l=>(l[i]?).map (λy=>⟨True,y.toSV,S⟩)
 |_=>none
def Vdj(x:SV)(S:St):Option Res:=
 match x with
 | .ptr b k=>some ⟨True,.ptr b k,S⟩
 | .av (.ro l k)=>some ⟨True,.av (.ro l k),S⟩
 |_=>none
def Vqf(S:St):List Operand->Option (List PV)
 |[]=>some []
 |x::l=>match(S.ev x).toPV,Vqf S l with
  |some y,some r=>some (y::r)
  |_,_=>none
theorem allPV_eq(S:St):∀ l,Vqf S l=l.mapM (λx=>(S.ev x).toPV)
 |[]=>rfl
 |x::l=>by
  simp only[Vqf,List.mapM_cons,allPV_eq S l];cases(S.ev x).toPV <;>cases l.mapM (λx=>(S.ev x).toPV) <;>rfl
def Vl9(fn:Fn)(first captured:List Operand)(S:St):Option Res:=
 match fn,Vqf S first,Vqf S captured with
 | .func f,some fs,some cs=>some ⟨True,.fn f fs cs,S⟩
 |_,_,_=>none
def isInt:SV->Bool
 | .av (.val (.int _ _))=>true
 |_=>false
def aMakeMap(P:Program)(d:Option Tmp)(t:TypeId)(r:Option SV)(S:St):Option Res:=
 match d,tMap P t with
 |some id,some _=>if id<1000/\S.names id=false/\r.all isInt=true then some ⟨True,.mp id,S.addBox id (.map [] [])⟩else none
 |_,_=>none
def Vf0(P:Program)(t:TypeId)(x i:SV)(ok:Bool)(S:St):Option Res:=
 match tMap P t with
 | some (k,e)=>match Vak P e,i with
  | some (_,_,some z),.av (.val (.string s))=>if tStr P k=true then match zAV z with
    | some za=>match x with
     | .mp b=>match S.bx.lookup b with
      |some (.map ks vs)=>some ⟨True,.av (Vkf ok za ks vs s),S⟩
      |_=>none
     | .av (.rm ks vs)=>some ⟨True,.av (Vkf ok za ks vs s),S⟩
     | .av (.val (.map none))=>some ⟨True,.av (Vkf ok za [] [] s),S⟩
     |_=>none
    |none=>none
   else none
  |_,_=>none
 |none=>none
def Veb(P:Program)(t:TypeId)(x i y:SV)(S:St):Option Res:=
 match tMap P t with
 | some (k,_)=>if tStr P k=true then match x,i,y.toAV with
   | .mp b,.av (.val (.string s)),some v=>match S.bx.lookup b with
    |some (.map ks vs)=>some ⟨True,Vas,S.setBox b (.map (mputK ks s) (mputV ks vs s v))⟩
    |_=>none
   |_,_,_=>none
  else none
 |none=>none
def aMake(P:Program)(t:TypeId)(x y:SV)(S:St):Option Res:=
 match Vbb P t,x,y with
 |some e,.av (.val (.int _ i)),.av (.val (.int _ j))=>match Vak P e with
  |some (1,bt,some z)=>if cell1 z=true/\i=j then some ⟨0<=i/\(bt:Int)*i<=281474976710656/\i<=9223372036854775807,.av (.sl (Zn i.toNat (Vdi z))),S⟩else none
  |_=>none
 |_,_,_=>none
def Vb6(P:Program)(o:Oper)(S:St):Option Res:=
 match o.op with
 | .move x=>some ⟨True,S.ev x,S⟩
 | .assign x=>some ⟨True,S.ev x,S⟩
 | .pick c x y=>aPick (S.ev c) (S.ev x) (S.ev y) S
 | .binOp op t x y _=>aBinS P op t (S.ev x) (S.ev y) S
 | .unOp op _ x=>aUnS op (S.ev x) S
 | .extract x i=>Vf1 (S.ev x) i S
 | .nilCheck x=>Vdj (S.ev x) S
 | .fieldAddr s x f=>Viy P s (S.ev x) f S
 | .load t x=>Vin P t (S.ev x) S
 | .store t x y=>Vqi P t (S.ev x) (S.ev y) S
 | .alloc t=>Vqo P o.dst t S
 | .box t x=>aBox o.dst t (S.ev x) S
 | .build t parts=>Vqn P t parts.toList S
 | .buildSlice t n parts=>Vbz P t n parts.toList S
 | .indexAddr t x i=>Vec P t (S.ev x) (S.ev i) S
 | .index t x i=>Vqm P t (S.ev x) (S.ev i) S
 | .slice t x lo hi none=>Vqj P t (S.ev x) (lo.map S.ev) (hi.map S.ev) S
 | .makeFunc fn first captured=>Vl9 fn first.toList captured.toList S
 | .call {callee:=.builtin b,args,argTypes}=>Vdv P o.dst b args.toList argTypes.toList S
 | .makeMap t r=>aMakeMap P o.dst t (r.map S.ev) S
 | .lookup t x i ok=>Vf0 P t (S.ev x) (S.ev i) ok S
 | .mapUpdate t x i y=>Veb P t (S.ev x) (S.ev i) (S.ev y) S
 | .convert src dst x=>Vhm P src dst (S.ev x) S
 | .makeSlice t x y=>aMake P t (S.ev x) (S.ev y) S
 |_=>none
theorem arr1{α:Type}{a:Array α}{x:α}(h:a.toList=[x]):a=#[x]:=by rw[<-Array.toArray_toList (xs:=a),h]
theorem arr3{α:Type}{a:Array α}{x y z:α}(h:a.toList=[x,y,z]):a=#[x,y,z]:=by rw[<-Array.toArray_toList (xs:=a),h]
theorem arr2{α:Type}{a:Array α}{x y:α}(h:a.toList=[x,y]):a=#[x,y]:=by rw[<-Array.toArray_toList (xs:=a),h]
theorem Vc4{S:St}{d:Int}{o:Option Operand}{i:Int}(h:Vhn d (o.map S.ev)=some i):∃ k:IntKind,Vaz S d k i o:=by
 cases o with
 |none=>simp[Vhn]at h;exact⟨.i64,h.symm⟩
 |some y=>
  simp only[Zo]at h;unfold Vhn at h
  split at h
  ·rename_i hh;simp at hh
  ·rename_i k i' hh;simp only[Za]at hh h;subst h;exact⟨k,hh⟩
  ·simp at h
theorem Vmy{s:SV}{b:ByteArray}(h:s.toAV=some (.val (.string b))):s=.av (.val (.string b)):=by
 cases s <;>simp_all[SV.toAV]
theorem Vo4{P:Program}{o:Oper}{S:St}{t t2:TypeId}{x y:Operand}{r:Res}(ho:o.op=.call {callee:=.builtin .append,args:=#[x,y],argTypes:=#[t,t2]})(h:Vfu P o.dst t t2 (S.ev x) (S.ev y) S=some r):Sound P o S r:=by
 unfold Vfu at h
 split at h
 ·rename_i e d h1 h2
  split at h
  ·rename_i sz bt z h3
   split at h
   ·rename_i h4;obtain⟨h4,h5,h6⟩:=h4
    split at h
    ·rename_i l' h7
     have src:∀ {G:Gh} {w:World} {a:Act},Rel G w S a->Uni sz l'->∃ es',Src P w G.U sz (a.eval y) l' es':=by
      intro G w a hr hu;unfold aSrc at h7
      split at h7
      ·rename_i l hl;simp at h7;subst h7;exact src_sl ((hr.ev y).toAV hl) hu
      ·rename_i s hs
       split at h7
       ·rename_i h1;subst h1;simp at h7;subst h7
        have:=hr.ev y;rw[Vmy hs]at this;simp only[RepS,Rep]at this;rw[this.1];exact src_str s
       ·simp at h7
      ·simp at h7
     split at h
     ·rename_i k g sz' l hx
      split at h
      ·rename_i hsz;obtain⟨rfl,hke⟩:=hsz;simp only[Za]at h;subst h;rintro⟨hgen,hu,hb⟩ G w a hr;obtain⟨es',hs⟩:=src hr hu
       have hown:=hr.ev x;rw[hx]at hown;obtain⟨c,hc⟩:=Vax (P:=P) (a:=a) ho w;obtain⟨v,w',G',e1,e2,e3,e4,e5⟩:=Vml (ty:=o.type) h1 h6 h3 h4 h5 hr hown hke hgen hs hu hb;exact⟨.value v,v,w',G',by rw[hc];simp[builtin,e1],.inl rfl,e2,e3,e4,λi _=>e5 i⟩
      ·simp at h
     ·rename_i b n hx
      split at h
      ·rename_i e' sz' l hbx
       split at h
       ·rename_i hc;obtain⟨rfl,rfl,hb1⟩:=hc;simp only[Za]at h;subst h;rintro⟨hn,hu,hb⟩ G w a hr;obtain⟨es',hs⟩:=src hr hu
        have hvs:=hr.ev x;rw[hx]at hvs;obtain⟨c,hc⟩:=Vax (P:=P) (a:=a) ho w;obtain⟨v,w',G',e1,e2,e3,e4,e5⟩:=append_vs (ty:=o.type) h1 h6 h3 h4 h5 hr hvs hbx hn hs hu hb;exact⟨.value v,v,w',G',by rw[hc];simp[builtin,e1],.inl rfl,e2,e3,e4,λi hi=>e5 i kv⟩
       ·simp at h
      ·simp at h
     ·rename_i l hx;simp only[Za]at h;subst h;rintro⟨hu0,hu,hb⟩ G w a hr;obtain⟨es',hs⟩:=src hr hu
      have hown:=hr.ev x;rw[hx]at hown;obtain⟨c,hc⟩:=Vax (P:=P) (a:=a) ho w;obtain⟨v,w',G',e1,e2,e3,e4,e5⟩:=append_clo (ty:=o.type) h1 h6 h3 h4 h5 hr hown hs hu0 hu hb;exact⟨.value v,v,w',G',by rw[hc];simp[builtin,e1],.inl rfl,e2,e3,e4,λi _=>e5 i⟩
     ·rename_i hx;simp only[Za]at h;subst h;rintro⟨hu,hb⟩ G w a hr;obtain⟨es',hs⟩:=src hr hu
      have hown:=hr.ev x;rw[hx]at hown;simp only[RepS]at hown
      have hown':RepS G w (.own (d,e+1) (S.gen (d,e+1)) sz []) (a.eval x):=by
       rw[hown];exact⟨Nat.succ_pos _,by rw[hr.gn];exact Nat.le_refl _,none,0,[],rfl,by simp[RepL],by simp,by simp,by simp,by simp,.inl (by simp[Va1]),λ_=>.inl ⟨rfl,.inl rfl⟩⟩
      obtain⟨c,hc⟩:=Vax (P:=P) (a:=a) ho w;obtain⟨v,w',G',e1,e2,e3,e4,e5⟩:=Vml (ty:=o.type) h1 h6 h3 h4 h5 hr hown' rfl rfl hs hu (by simpa using hb);exact⟨.value v,v,w',G',by rw[hc];simp[builtin,e1],.inl rfl,e2,e3,by simpa using e4,λi _=>e5 i⟩
     ·simp at h
    ·simp at h
   ·simp at h
  ·simp at h
 ·simp at h
theorem sound_binB{P:Program}{o:Oper}{S:St}{op:BinOp}{t t':TypeId}{x y:Operand}{a b:Bool}{r:Res}(ho:o.op=.binOp op t x y t')(hx:S.ev x=.av (.val (.bool a)))(hy:S.ev y=.av (.val (.bool b)))(h:aBinB P op t a b S=some r):Sound P o S r:=by
 unfold aBinB at h
 split at h
 ·rename_i hu
  have key:∀(d:Nat)(w:World),(Op.equalIn (d+1) t (.bool a) (.bool b)).run P w=.ok (a==b) w:=λd w=>by
   simp[Op.equalIn,Va0 hu]
  split at h
  ·simp only[Za]at h;subst h;refine Sound.still λ_ G w ac hr=>?_
   have h1:=hr.ev x;rw[hx]at h1;simp only[RepS,Rep]at h1
   have h2:=hr.ev y;rw[hy]at h2;simp only[RepS,Rep]at h2;refine⟨.bool (a==b),?_,by simp only[RepS,Rep];exact⟨trivial,rfl⟩⟩;simp[execOp,ho,h1.1,h2.1,eqGuard,binOp,Op.equal,Op.maxDepth,key 9999]
  ·simp only[Za]at h;subst h;refine Sound.still λ_ G w ac hr=>?_
   have h1:=hr.ev x;rw[hx]at h1;simp only[RepS,Rep]at h1
   have h2:=hr.ev y;rw[hy]at h2;simp only[RepS,Rep]at h2;refine⟨.bool (a !=b),?_,by simp only[RepS,Rep];exact⟨trivial,rfl⟩⟩;simp[execOp,ho,h1.1,h2.1,eqGuard,binOp,Op.equal,Op.maxDepth,key 9999,bne]
  ·simp at h
 ·simp at h
theorem Vau{P:Program}{o:Oper}{S:St}{r:Res}(h:Vb6 P o S=some r):Sound P o S r:=by
 unfold Vb6 at h
 split at h
 ·rename_i x ho;simp only[Za]at h;subst h;exact Vce (.inl ho)
 ·rename_i x ho;simp only[Za]at h;subst h;exact Vce (.inr ho)
 ·rename_i c x y ho;unfold aPick at h;split at h
  ·rename_i p hp;simp only[Za]at h;subst h;exact Vly ho hp
  ·simp at h
 ·rename_i op t x y t' ho;unfold aBinS at h;split at h
  ·rename_i a b hx hy;exact sound_binB ho hx hy h
  ·rename_i u v _ hx hy;simp only[Zb]at h;obtain⟨⟨p,q⟩,h1,rfl⟩:=h;exact Vfc ho hx hy h1
  ·rename_i l l' hx hy;exact sound_binA ho hx hy h
  ·simp at h
 ·rename_i op t x ho;unfold aUnS at h;split at h
  ·rename_i u hx;simp only[Zb]at h;obtain⟨q,h1,rfl⟩:=h;exact sound_un ho hx h1
  ·simp at h
 ·rename_i x i ho;unfold Vf1 at h;split at h
  ·rename_i l hx;simp only[Zb]at h;obtain⟨q,h1,rfl⟩:=h;exact Vn7 ho hx h1
  ·rename_i l hx;simp only[Zb]at h;obtain⟨q,h1,rfl⟩:=h;exact Vj1 ho hx h1
  ·simp at h
 ·rename_i x ho;unfold Vdj at h;split at h
  ·rename_i b k hx;simp only[Za]at h;subst h;exact Vgy ho hx
  ·rename_i l k hx;simp only[Za]at h;subst h;exact Vhv ho hx
  ·simp at h
 ·rename_i s x f ho;unfold Viy at h;split at h
  ·rename_i off ft h1
   split at h
   ·rename_i sz _ _ h2
    split at h
    ·simp at h
    ·rename_i h0
     split at h
     ·rename_i b k hx;simp only[Za]at h;subst h;exact Vgi ho hx h1 h2 h0
     ·rename_i l k hx;simp only[Za]at h;subst h;exact Vh3 ho hx h1 h2 h0
     ·rename_i b s' i' k hx;simp only[Za]at h;subst h;exact Vh2 ho hx h1 h2 h0
     ·simp at h
   ·simp at h
  ·simp at h
 ·rename_i t x ho;unfold Vin at h;split at h
  ·rename_i h1
   split at h
   ·rename_i b k hx
    split at h
    ·rename_i ty l hb;simp only[Zb]at h;obtain⟨q,h2,rfl⟩:=h;exact Vlp ho hx h1 hb h2
    ·simp at h
   ·rename_i l k hx;simp only[Zb]at h;obtain⟨q,h2,rfl⟩:=h;exact Vn5 ho hx h1 h2
   ·simp at h
  ·rename_i h1
   split at h
   ·rename_i sz _ _ h2
    split at h
    ·rename_i b k hx
     split at h
     ·rename_i ty l hb
      split at h
      ·split at h
       ·rename_i r' hr'
        split at h
        ·rename_i hsz;simp only[Za]at h;subst h;exact Vhy ho hx h1 h2 hb hr' hsz
        ·simp at h
       ·simp at h
      ·split at h
       ·rename_i r' hr'
        split at h
        ·rename_i hsz;simp only[Za]at h;subst h;exact Vh1 ho hx h1 h2 hb hr' hsz
        ·simp at h
       ·simp at h
     ·simp at h
    ·rename_i l k hx
     split at h
     ·rename_i hsz;simp only[Za]at h;subst h;exact Vhx ho hx h1 h2 hsz
     ·simp at h
    ·simp at h
   ·simp at h
  ·simp at h
 ·rename_i t x y ho;unfold Vqi at h;split at h
  ·rename_i sz _ _ h1
   split at h
   ·rename_i b k hx
    split at h
    ·rename_i ty l xs hb hxs
     split at h
     ·rename_i hc;simp only[Za]at h;subst h;exact Vjt ho hx h1 hb hxs hc.1 hc.2
     ·simp at h
    ·simp at h
   ·rename_i b s' i' k hx
    split at h
    ·rename_i e s2 l v hb hv
     split at h
     ·rename_i hc;subst hc;simp only[Za]at h;subst h;exact Vlk ho hx h1 hv hb
     ·simp at h
    ·simp at h
   ·simp at h
  ·simp at h
 ·rename_i t ho;unfold Vqo at h;split at h
  ·rename_i id _ _ z hd h1
   split at h
   ·rename_i hc;simp only[Za]at h;subst h;exact Vk1 ho h1 hc.1 hc.2.1 hc.2.2
   ·simp at h
  ·simp at h
 ·rename_i t x ho;unfold aBox at h;split at h
  ·rename_i id xs hd hxs
   split at h
   ·rename_i hc;simp only[Za]at h;subst h;exact sound_box ho hxs hc.1 hc.2.1 hc.2.2
   ·simp at h
  ·simp at h
 ·rename_i t parts ho;unfold Vqn at h;split at h
  ·rename_i _ _ z pl ps h1 h2 h3
   split at h
   ·rename_i hc;simp only[Zb]at h;obtain⟨q,h4,rfl⟩:=h;exact sound_build ho h1 hc h2 h3 h4
   ·simp at h
  ·simp at h
 ·rename_i t n parts ho;unfold Vbz at h;split at h
  ·rename_i e h1
   split at h
   ·rename_i sz bt z ps h2 h3
    split at h
    ·rename_i hc;simp only[Za]at h;subst h;intro hu
     split
     ·exact Vg6 ho h1 h2 hc.1 h3 hu hc.2 trivial
     ·exact Vj2 ho h1 h2 hc.1 h3 hu hc.2 trivial
    ·simp at h
   ·simp at h
  ·simp at h
 ·rename_i t x i ho;unfold Vec at h;split at h
  ·rename_i b n _ i' e hx hi he
   split at h
   ·rename_i sz _ _ h2;simp only[Za]at h;subst h;exact Vdp ho hx hi he h2
   ·simp at h
  ·rename_i b sz' q n _ i' e hx hi he
   split at h
   ·rename_i sz _ _ h2
    split at h
    ·rename_i hs;subst hs;simp only[Za]at h;subst h;exact Vdo ho hx hi he h2
    ·simp at h
   ·simp at h
  ·split at h
   ·rename_i e h1
    split at h
    ·rename_i sz _ _ l _ i' h2 h3 h4
     split at h
     ·rename_i h0;simp only[Za]at h;subst h;exact Vfb ho h3 h4 h1 h2 h0
     ·simp at h
    ·simp at h
   ·split at h
    ·rename_i hx hi hta
     split at h
     ·rename_i hti;simp only[Za]at h;subst h;exact Vd9 ho hx hi hta hti
     ·simp at h
    ·simp at h
 ·rename_i t x i ho;unfold Vqm at h;split at h
  ·rename_i s _ i' h1 h2
   split at h
   ·rename_i h0;simp only[Za]at h;subst h;exact sound_index ho h1 h2 h0
   ·simp at h
  ·rename_i l _ i' h1 h2
   split at h
   ·rename_i n e h3
    split at h
    ·rename_i sz bt zz ag h4 h5;simp only[Za]at h;subst h;exact Vk0 ho h1 h2 h3 h4 h5
    ·simp at h
   ·simp at h
  ·simp at h
 ·rename_i t x lo hi ho;unfold Vqj at h;split at h
  ·rename_i b n hx
   split at h
   ·rename_i e he
    split at h
    ·rename_i sz _ _ i j h0 h1 h2;obtain⟨k,hk⟩:=Vc4 h1;obtain⟨k',hk'⟩:=Vc4 h2;cases lo with
     |none=>simp only[Option.map_none,Za]at h;subst h;exact Vlm ho hx hk hk' he h0
     |some y'=>simp only[Zo,Za]at h;subst h;exact Vll ho hx hk hk' he h0
    ·simp at h
   ·simp at h
  split at h
  ·rename_i s hx
   split at h
   ·rename_i i j h1 h2
    split at h
    ·rename_i h0;simp only[Za]at h;subst h;obtain⟨k,hk⟩:=Vc4 h1;obtain⟨k',hk'⟩:=Vc4 h2;exact Vju ho (Vmy hx) hk hk' h0
    ·simp at h
   ·simp at h
  ·rename_i l hx
   split at h
   ·rename_i e he
    split at h
    ·rename_i sz _ _ i j h0 h1 h2;simp only[Za]at h;subst h;obtain⟨k,hk⟩:=Vc4 h1;obtain⟨k',hk'⟩:=Vc4 h2;exact Vln ho hx hk hk' he h0
    ·simp at h
   ·simp at h
  ·simp at h
 ·rename_i fn first captured ho
  unfold Vl9 at h;split at h
  ·rename_i f fs cs h1 h2;simp only[Za]at h;subst h;rw[allPV_eq]at h1 h2;exact Vlo ho h1 h2
  ·simp at h
 ·rename_i b args tys ho;unfold Vdv at h;split at h
  ·rename_i x t hx ht
   have e1:=arr1 hx;have e2:=arr1 ht;subst e1 e2;unfold aLen at h;split at h
   ·rename_i b n hx
    split at h
    ·rename_i h0;simp only[Za]at h;subst h;exact Von ho hx h0
    ·simp at h
   ·rename_i b sz q n hx
    split at h
    ·rename_i h0;simp only[Za]at h;subst h;exact Vom ho hx h0
    ·simp at h
   split at h
   ·rename_i s hs
    split at h
    ·rename_i h0;simp only[Za]at h;subst h;exact Vn6 ho (Vmy hs) h0
    ·simp at h
   ·rename_i l hl
    split at h
    ·rename_i h0;simp only[Za]at h;subst h;exact Voo ho hl h0
    ·simp at h
   ·simp at h
  ·rename_i x y t t2 hx ht
   have e1:=arr2 hx;have e2:=arr2 ht;subst e1 e2;exact Vo4 ho h
  ·rename_i x y hx
   have e1:=arr2 hx;subst e1
   split at h
   ·rename_i k i k' j h1 h2
    split at h
    ·rename_i hk;subst hk;simp only[Za]at h;subst h;exact sound_max ho h1 h2
    ·simp at h
   ·simp at h
  ·rename_i x y z hx
   have e1:=arr3 hx;subst e1
   split at h
   ·rename_i k i k' j k'' l h1 h2 h3
    split at h
    ·rename_i hk;obtain⟨rfl,rfl⟩:=hk;simp only[Za]at h;subst h;exact sound_max3 ho h1 h2 h3
    ·simp at h
   ·simp at h
  ·rename_i x y hx
   have e1:=arr2 hx;subst e1
   split at h
   ·rename_i k i k' j h1 h2
    split at h
    ·rename_i hk;subst hk;simp only[Za]at h;subst h;exact sound_min ho h1 h2
    ·simp at h
   ·simp at h
  ·rename_i x t hx ht
   have e1:=arr1 hx;have e2:=arr1 ht;subst e1 e2
   split at h
   ·rename_i b ke h1 h2
    split at h
    ·rename_i ks vs h3;simp only[Za]at h;subst h;exact sound_clear (k:=ke.1) (e:=ke.2) ho h1 h2 h3
    ·simp at h
   ·simp at h
  ·simp at h
 ·rename_i t r ho;unfold aMakeMap at h;split at h
  ·rename_i id ke hd h1
   split at h
   ·rename_i hc;simp only[Za]at h;subst h;refine Vel ho (k:=ke.1) (e:=ke.2) h1 (λx hx=>?_) hc.1 hc.2.1;subst hx
    have h3:=hc.2.2;simp only[Zo,Option.all_some]at h3;unfold isInt at h3;split at h3
    ·rename_i kd n hn;exact⟨kd,n,hn⟩
    ·simp at h3
   ·simp at h
  ·simp at h
 ·rename_i t x i ok ho;unfold Vf0 at h;split at h
  ·rename_i k e h1
   split at h
   ·rename_i _ _ z s h2 h3
    split at h
    ·rename_i hk
     split at h
     ·rename_i za hza
      split at h
      ·rename_i b hx
       split at h
       ·rename_i ks vs hb;simp only[Za]at h;subst h;exact Vjy ho hx h3 h1 hk h2 hza hb
       ·simp at h
      ·rename_i ks vs hx;simp only[Za]at h;subst h;exact Vjw ho hx h3 h1 hk h2 hza
      ·rename_i hx;simp only[Za]at h;subst h;exact Vjx ho hx h3 h1 hk h2 hza
      ·simp at h
     ·simp at h
    ·simp at h
   ·simp at h
  ·simp at h
 ·rename_i t x i y ho;unfold Veb at h;split at h
  ·rename_i k e h1
   split at h
   ·rename_i hk
    split at h
    ·rename_i b s v hx hi hy
     split at h
     ·rename_i ks vs hb;simp only[Za]at h;subst h;exact Vjv ho hx hi hy h1 hk hb
     ·simp at h
    ·simp at h
   ·simp at h
  ·simp at h
 ·rename_i src dst x ho;unfold Vhm at h;split at h
  ·rename_i k0 k h1 h2
   split at h
   ·rename_i k' n hx;simp only[Za]at h;subst h;exact Vhz ho h1 h2 hx
   ·simp at h
  ·rename_i k0 h1 h2
   split at h
   ·rename_i k' n hx;simp only[Za]at h;subst h;exact Vh4 ho h1 h2 hx
   ·simp at h
  ·rename_i e h1 h2
   split at h
   ·rename_i l h3 hx;simp only[Za]at h;subst h;exact Vgj ho h1 h2 h3 hx
   ·simp at h
  ·simp at h
 ·rename_i t x y ho;unfold aMake at h;split at h
  ·rename_i e k i k' j h1 h2 h3
   split at h
   ·rename_i bt z h4
    split at h
    ·rename_i hc;obtain⟨hc1,rfl⟩:=hc;simp only[Za]at h;subst h;exact Vol ho h2 h3 h1 h4 hc1
    ·simp at h
   ·simp at h
  ·simp at h
 ·simp at h
end Go.Eng
namespace Go.Eng
def lift(Q:Exit->St->Prop)(G:Gh)(w:World):Exit->Act->World->Prop:=
 λe a' w'=>∃ S' G',Q e S'/\Step G w G' w'/\Rel G' w' S' a'/\∀ i,Fx i->G'.ow (i,0)=G.ow (i,0)
def W(P:Program)(c:Code)(Q:Exit->St->Prop)(S:St):Prop:=
 ∀(G:Gh)(w:World)(a:Act),Rel G w S a->c.wp P (lift Q G w) a w
def Voi(K:St->Prop)(Q:Exit->St->Prop):Exit->St->Prop
 | .normal,S=>K S
 |e,S=>Q e S
def Vgd(id:Nat)(Q:Exit->St->Prop):Exit->St->Prop
 | .exit id',S=>if id'=id then Q .normal S else Q (.exit id') S
 |e,S=>Q e S
def Weak(S S':St):Prop:=∀ G w a,Rel G w S a->Rel G w S' a
section
variable {P:Program}
theorem Vcj{Q:Exit->St->Prop}{G G':Gh}{w w':World}(h:Step G w G' w')(ho:∀ i,Fx i->G'.ow (i,0)=G.ow (i,0)){e:Exit}{a:Act}{w'':World}(hl:lift Q G' w' e a w''):lift Q G w e a w'':=by
 obtain⟨S',G'',h1,h2,h3,h4⟩:=hl;exact⟨S',G'',h1,h.trans h2,h3,λi hi=>(h4 i hi).trans (ho i hi)⟩
theorem Vha{Q:Exit->St->Prop}{G:Gh}{w:World}{e:Exit}{S:St}{a:Act}(h:Q e S)(hr:Rel G w S a):lift Q G w e a w:=
 ⟨S,G,h,Step.refl G w,hr,λ_ _=>rfl⟩
theorem Vfv{c:Code}{Q Q':Exit->St->Prop}{S:St}(h:W P c Q S)(hq:∀ e S,Q e S->Q' e S):W P c Q' S:=
 λG w a hr=>Code.wp_mono (λe a w ⟨S',G',h1,h2⟩=>⟨S',G',hq _ _ h1,h2⟩) (h G w a hr)
theorem Vai{c:Code}{Q:Exit->St->Prop}{S S':St}(hw:Weak S S')(h:W P c Q S'):W P c Q S:=
 λG w a hr=>h G w a (hw G w a hr)
theorem W_skip{Q:Exit->St->Prop}{S:St}(h:Q .normal S):W P .skip Q S:=λ_ _ _ hr=>wp_skip (Vha h hr)
theorem W_label{l:Nat}{Q:Exit->St->Prop}{S:St}(h:Q .normal S):W P (.label l) Q S:=λ_ _ _ hr=>wp_label (Vha h hr)
theorem W_exit{id:Nat}{Q:Exit->St->Prop}{S:St}(h:Q (.exit id) S):W P (.exit id) Q S:=λ_ _ _ hr=>wp_exit (Vha h hr)
theorem W_ret{Q:Exit->St->Prop}{S:St}(h:Q .ret S):W P .ret Q S:=λ_ _ _ hr=>wp_ret (Vha h hr)
theorem Vo5{x y:Code}{Q:Exit->St->Prop}{S:St}(h:W P x (Voi (W P y Q) Q) S):W P (.seq x y) Q S:=by
 intro G w a hr;refine wp_seq (Code.wp_mono (λe a' w' hl=>?_) (h G w a hr));obtain⟨S',G',h1,h2,h3,h4⟩:=hl;cases e with
 |normal=>exact Code.wp_mono (λe a w hl=>Vcj h2 h4 hl) (h1 G' w' a' h3)
 |exit id=>exact⟨S',G',h1,h2,h3,h4⟩
 |goto l=>exact⟨S',G',h1,h2,h3,h4⟩
 |ret=>exact⟨S',G',h1,h2,h3,h4⟩
 |panic c=>exact⟨S',G',h1,h2,h3,h4⟩
 |outgrown=>exact⟨S',G',h1,h2,h3,h4⟩
theorem W_cond{c:Operand}{x y:Code}{Q:Exit->St->Prop}{S:St}{b:Bool}(hc:S.ev c=.av (.val (.bool b)))(h:if b then W P x Q S else W P y Q S):W P (.cond c x y) Q S:=by
 intro G w a hr
 have h1:=hr.ev c;rw[hc]at h1;simp only[RepS,Rep]at h1;refine wp_cond h1.1 ?_;cases b
 ·exact h G w a hr
 ·exact h G w a hr
theorem Vo6{id:Nat}{c:Code}{Q:Exit->St->Prop}{S:St}(h:W P c (Vgd id Q) S):W P (.block id c) Q S:=by
 intro G w a hr;refine wp_block (Code.wp_mono (λe a' w' hl=>?_) (h G w a hr));obtain⟨S',G',h1,h2⟩:=hl;cases e with
 |exit id'=>
  simp only[Exit.inBlock,Vgd]at h1 ⊢
  split
  ·rename_i hid;rw[if_pos hid]at h1;exact⟨S',G',h1,h2⟩
  ·rename_i hid;rw[if_neg hid]at h1;exact⟨S',G',h1,h2⟩
 |normal=>exact⟨S',G',h1,h2⟩
 |goto l=>exact⟨S',G',h1,h2⟩
 |ret=>exact⟨S',G',h1,h2⟩
 |panic c=>exact⟨S',G',h1,h2⟩
 |outgrown=>exact⟨S',G',h1,h2⟩
theorem wp_loop_idx{c:Code}{Q:Exit->Act->World->Prop}{a:Act}{w:World}(I:Nat->Act->World->Prop){n:Nat}(h₀:I n a w)
  (round:∀ n a w,I n a w->c.wp P (Exit.then (λa' w'=>∃ m,m<n/\I m a' w') Q) a w):(Code.loop c).wp P Q a w:=by
 intro b k cs
 have key:∀ n a w,I n a w->∃ e a' w',Q e a' w'/\Arrives P (lone (b.at a (.code c:: .inLoop c::k)) cs w) b k cs e a' w':=by
  intro n
  induction n using Nat.strongRecOn with
  | _ n ih=>
   intro a w hI;obtain⟨e,a₁,w₁,hq,harr⟩:=round n a w hI b (.inLoop c::k) cs;cases e with
   |normal=>
    obtain⟨m,hlt,hI₁⟩:=hq;obtain⟨e₂,a₂,w₂,hq₂,harr₂⟩:=ih m hlt a₁ w₁ hI₁;exact⟨e₂,a₂,w₂,hq₂,.of_steps (Steps.trans harr (.one step_inLoop)) harr₂⟩
   |exit id=>exact⟨_,a₁,w₁,hq,.pass (x:=.inLoop c) rfl (λ_ _=>.inl ku) harr⟩
   |goto l=>exact⟨_,a₁,w₁,hq,.pass (x:=.inLoop c) rfl (λ_ _=>.inl ku) harr⟩
   |ret=>exact⟨_,a₁,w₁,hq,.pass (x:=.inLoop c) rfl (λ_ _=>.inl ku) harr⟩
   |panic ch=>exact⟨_,a₁,w₁,hq,.pass (x:=.inLoop c) rfl (λ_ _=>.inl ku) harr⟩
   |outgrown=>exact⟨_,a₁,w₁,hq,.pass (x:=.inLoop c) rfl (λ_ _=>.inl ku) harr⟩
 obtain⟨e,a',w',hq,harr⟩:=key n a w h₀;exact⟨e,a',w',hq,.of_steps (.one step_loop) harr⟩
theorem W_loop{c:Code}{Q:Exit->St->Prop}{S:St}(I:Nat->St->Prop){n:Nat}{S0:St}(hw:Weak S S0)(h0:I n S0)
  (round:∀ n S,I n S->W P c (Voi (λS'=>∃ m S'',m<n/\Weak S' S''/\I m S'') Q) S):W P (.loop c) Q S:=by
 intro G w a hr;refine wp_loop_idx (λn a' w'=>∃ S' G',I n S'/\Step G w G' w'/\Rel G' w' S' a'/\∀ i,Fx i->G'.ow (i,0)=G.ow (i,0)) (n:=n) ⟨S0,G,h0,Step.refl G w,hw G w a hr,λ_ _=>rfl⟩ ?_;rintro n a' w' ⟨S',G',h1,h2,h3,h4⟩;refine Code.wp_mono (λe a'' w'' hl=>?_) (round n S' h1 G' w' a' h3);obtain⟨S2,G2,g1,g2,g3,g4⟩:=hl;cases e with
 |normal=>
  obtain⟨m,S3,hm,hwk,hI⟩:=g1;exact⟨m,hm,S3,G2,hI,h2.trans g2,hwk G2 w'' a'' g3,λi hi=>(g4 i hi).trans (h4 i hi)⟩
 |exit id=>exact Vcj h2 h4 ⟨S2,G2,g1,g2,g3,g4⟩
 |goto l=>exact Vcj h2 h4 ⟨S2,G2,g1,g2,g3,g4⟩
 |ret=>exact Vcj h2 h4 ⟨S2,G2,g1,g2,g3,g4⟩
 |panic ch=>exact Vcj h2 h4 ⟨S2,G2,g1,g2,g3,g4⟩
 |outgrown=>exact Vcj h2 h4 ⟨S2,G2,g1,g2,g3,g4⟩
def Vhs (P : Program) (f : FuncId) : Prop := ∃ fn, P.funcs[f]? = some fn /\ fn.body.isSome = true /\ (fn.name == "runtime.NumGoroutine") = false
def Vb8:List (Nat×ABox)->List Nat
 |[]=>[]
 |(i,.vec _ _ _)::l=>i::Vb8 l
 |_::l=>Vb8 l
def ABox.unK:ABox->ABox
 | .vck e sz l=>.vec e sz l
 |x=>x
theorem unK_rep{G:Gh}{w:World}{id:Nat}{x:ABox}(h:RepB G w id x):RepB G w id x.unK:=by cases x <;>exact h
def SV.forgetL(ids:List Nat)(s:SV):SV:=match ids.any (λi=>s.names i)with
 |true=>.junk
 |false=>s
def ABox.forgetL(ids:List Nat):ABox->ABox
 | .cells t l=>.cells t (l.map (SV.forgetL ids))
 | .mi ks l=>.mi ks (l.map (SV.forgetL ids))
 |x=>x
theorem Vkt{G:Gh}{w:World}{ids:List Nat}{s:SV}{u:Value}(h:RepS G w s u):RepS G w (s.forgetL ids) u:=by
 unfold SV.forgetL;split
 ·trivial
 ·exact h
theorem Vfn{G:Gh}{w:World}{ids:List Nat}:∀ {l:List SV} {us:List Value},RepSs G w l us->RepSs G w (l.map (SV.forgetL ids)) us
 |[],_,h=>h
 |s::l,us,h=>by obtain⟨u,us',e,h1,h2⟩:=h;exact⟨u,us',e,Vkt h1,Vfn h2⟩
theorem forgetL_box{G:Gh}{w:World}{ids:List Nat}{id:Nat}{x:ABox}(h:RepB G w id x):RepB G w id (x.forgetL ids):=by
 cases x with
 |cells t l=>obtain⟨blk,arr,h1,h2,h3,h4,h5⟩:=h;exact⟨blk,arr,h1,h2,h3,Vfn h4,h5⟩
 |mi ks l=>obtain⟨blk,ents,clock,h1,h2,h3,h4,h5,h6⟩:=h;exact⟨blk,ents,clock,h1,h2,h3,h4,Vfn h5,h6⟩
 |_=>exact h
theorem Vfo{ids:List Nat}{s:SV}:∀ κ∈(s.forgetL ids).keys,κ.1 ∉ ids:=by
 intro κ hκ hi;unfold SV.forgetL at hκ
 split at hκ
 ·simp[SV.keys]at hκ
 ·rename_i h;rw[Zl]at h
  have h1:=h κ.1 hi;simp only[Bool.not_eq_true]at h1;exact Vby h1 κ hκ rfl
def Va2(P:Program)(f:FuncId)(args:List SV)(bx:List (Nat×ABox))(gn:List (Key×Nat))(res:SV)(bx':List (Nat×ABox))(gn':List (Key×Nat)):Prop:=
 Vhs P f/\∀(G:Gh)(w:World)(vs:List Value),Wf G w->RepSs G w args vs->(∀p∈bx,RepB G w p.1 p.2)->(∀p∈gn,G.gen p.1=p.2)->
  Calls P f vs.toArray w (λe w'=>∃ v G',e=.returned v/\Step G w G' w'/\Wf G' w'/\RepS G' w' res v/\(∀p∈bx',RepB G' w' p.1 p.2)/\
   (∀i:Nat,i ∉ bx'.map (·.1)->Keep G w G' w' (i,0))/\(∀i,i ∉ Vb8 bx'->G'.ow (i,0)=G.ow (i,0))/\∀ κ:Key,G'.gen κ=(gn'.lookup κ).getD (G.gen κ))
def St.upd(S:St)(bx':List (Nat×ABox))(gn':List (Key×Nat)):St:=
 match Vb8 bx' with
 |[]=>{S with bx:=S.bx.map (λp=>match bx'.lookup p.1 with|some x=>(p.1,x.unK)|none=>p),gn:=gn'++gn'.foldl (λl p=>Vfp p.1 l) S.gn}
 |v::vs=>{fr:=S.fr.map (SV.forgetL (v::vs)),bx:=S.bx.map (λp=>match bx'.lookup p.1 with|some x=>(p.1,x.unK)|none=>(p.1,p.2.forgetL (v::vs))),gn:=gn'++gn'.foldl (λl p=>Vfp p.1 l) S.gn}
theorem Vgf{S:St}{bx':List (Nat×ABox)}{gn':List (Key×Nat)}(h:Vb8 bx'=[]):S.upd bx' gn'={S with bx:=S.bx.map (λp=>match bx'.lookup p.1 with|some x=>(p.1,x.unK)|none=>p),gn:=gn'++gn'.foldl (λl p=>Vfp p.1 l) S.gn}:=by
 unfold St.upd;rw[h]
def SV.normK(keep:Bool)(s:SV):SV:=match keep with
 |true=>s
 |false=>s.norm
theorem RepS.normK{G:Gh}{w:World}{s:SV}{u:Value}(keep:Bool)(h:RepS G w s u):RepS G w (s.normK keep) u:=by
 cases keep
 ·exact h.norm
 ·exact h
def Vew(S:St)(fs:List PV)(args:List Operand)(cs:List PV)(keep:Bool):List SV:=
 fs.map PV.toSV++(args.map (λx=>(S.ev x).normK keep)++cs.map PV.toSV)
inductive Or where
 |b (d:Bool)
 |e (x:AV)
 |n (m:Int)
 |c (res:SV) (bx':List (Nat×ABox)) (gn gn':List (Key×Nat))
def gnOk(S:St):List (Key×Nat)->Prop
 |[]=>True
 |(k,g)::r=>S.gen k=g/\gnOk S r
theorem gnOk_get{S:St}:∀ {l:List (Key×Nat)},gnOk S l->∀ p∈l,S.gen p.1=p.2
 |[],_,p,hp=>by simp at hp
 |(k,g)::r,h,p,hp=>by
  simp only[Z2]at hp;rcases hp with rfl|hp
  ·exact h.1
  ·exact gnOk_get h.2 p hp
def Vbd(P:Program)(o:Oper)(ors:List Or)(S:St):Option (List Prop×List Or×SV):=
 match o.op,ors with
 | .load t x,.e y::ors=>match S.ev x with
  | .vp b s i k=>match S.bx.lookup b,tAgg P t,Vak P t with
   |some (.vec _ s' l),some false,_=>if s'=s/\k<y.cells.length/\y.isTup=false then some ([0<=i/\l[i.toNat]? =some y],ors,.av (y.cells.getD k (.val undef)))else none
   |some (.vec _ s' l),some true,some (n,_,_)=>if s'=s/\k+n<=y.cells.length/\y.isTup=false then some ([0<=i/\l[i.toNat]? =some y],ors,.av (.agg ((y.cells.drop k).take n)))else none
   |_,_,_=>none
  |_=>none
 | .indexAddr t x i,ors=>match S.ev x,S.ev i,Vbb P t with
  | .vs b n,.av (.val (.int _ i)),some e=>match Vak P e with
   |some (sz,_,_)=>some ([0<=i/\i<n],ors,.vp b sz i 0)
   |none=>none
  | .vw b sz' q n,.av (.val (.int _ i)),some e=>match Vak P e with
   |some (sz,_,_)=>if sz'=sz then some ([0<=i/\i<n],ors,.vp b sz ((q:Nat)+i) 0)else none
   |none=>none
  |_,_,_=>none
 |_,_=>none
theorem Vmu{P:Program}{o:Oper}{ors ors':List Or}{S:St}{cs:List Prop}{v:SV}(h:Vbd P o ors S=some (cs,ors',v)):∃ p,cs=[p]/\Sound P o S ⟨p,v,S⟩:=by
 have some_at:∀ {l:List AV} {i:Int} {y:AV},0<=i/\l[i.toNat]? =some y->i<l.length/\l.getD i.toNat (.val undef)=y:=by
  intro l i y ⟨h0,h1⟩
  have hlt:i.toNat<l.length:=by
   rcases Zr i.toNat l.length with q|q
   ·exact q
   ·rw[Zf q]at h1;cases h1
  exact⟨by omega,by simp[List.getD,h1]⟩
 unfold Vbd at h
 split at h
 ·rename_i t x y ors2 ho
  split at h
  ·rename_i b s i k hx
   split at h
   ·rename_i e s' l hb ht
    split at h
    ·rename_i hc;obtain⟨rfl,hc⟩:=hc;simp only[Za,Zd]at h;obtain⟨rfl,_,rfl⟩:=h;refine⟨_,rfl,λhp=>?_⟩;obtain⟨h1,h2⟩:=some_at hp
     have:=Vn4 ho hx ht hb;rw[h2]at this;exact this ⟨hp.1,h1,hc.1,hc.2⟩
    ·simp at h
   ·rename_i e s' l n _ _ hb ht hti
    split at h
    ·rename_i hc;obtain⟨rfl,hc⟩:=hc;simp only[Za,Zd]at h;obtain⟨rfl,_,rfl⟩:=h;refine⟨_,rfl,λhp=>?_⟩;obtain⟨h1,h2⟩:=some_at hp
     have:=Vhw ho hx ht hti hb;rw[h2]at this;exact this ⟨hp.1,h1,hc.1,hc.2⟩
    ·simp at h
   ·simp at h
  ·simp at h
 ·rename_i t x i ors2 ho
  split at h
  ·rename_i b n _ i' e hx hi he
   split at h
   ·rename_i sz _ _ h2;simp only[Za,Zd]at h;obtain⟨rfl,_,rfl⟩:=h;exact⟨_,rfl,Vdp ho hx hi he h2⟩
   ·simp at h
  ·rename_i b sz' q n _ i' e hx hi he
   split at h
   ·rename_i sz _ _ h2
    split at h
    ·rename_i hs;subst hs;simp only[Za,Zd]at h;obtain⟨rfl,_,rfl⟩:=h;exact⟨_,rfl,Vdo ho hx hi he h2⟩
    ·simp at h
   ·simp at h
  ·simp at h
 ·simp at h
def Vh6(P:Program)(o:Oper)(ors:List Or)(S:St):Option (List Prop×List Or×St):=
 match o.op with
 | .pick c x y=>match S.ev c,ors with
  | .av (.val (.bool p)),.b d::ors=>some ([p=d],ors,S.put o.dst (match d with|true=>S.ev x|false=>S.ev y))
  |_,_=>none
 | .binOp .add _ x y _=>match S.ev x,S.ev y,ors with
  | .av (.val (.int k i)),.av (.val (.int k' j)),.n m::ors=>if k=k' then some ([k.wrap (i+j)=m],ors,S.put o.dst (.av (.val (.int k m))))else none
  | .av (.val (.string a)),.av (.val (.string b)),ors=>some ([((a.size+b.size:Nat):Int)<=IntKind.i64.max],ors,S.put o.dst (.av (.val (.string (a++b)))))
  |_,_,_=>none
 | .binOp .sub _ x y _=>match S.ev x,S.ev y,ors with
  | .av (.val (.int k i)),.av (.val (.int k' j)),.n m::ors=>if k=k' then some ([k.wrap (i-j)=m],ors,S.put o.dst (.av (.val (.int k m))))else none
  |_,_,_=>none
 | .binOp .mul _ x y _=>match S.ev x,S.ev y,ors with
  | .av (.val (.int k i)),.av (.val (.int k' j)),.n m::ors=>if k=k' then some ([k.wrap (i*j)=m],ors,S.put o.dst (.av (.val (.int k m))))else none
  |_,_,_=>none
 | .indexAddr t x i=>match Vbb P t with
  |some e=>match Vak P e,(S.ev x).toAV,S.ev i,ors with
   |some (sz,_,_),some (.sl l),.av (.val (.int _ i)),.e y::ors=>if 0<sz/\y.cells.length=sz/\y.isTup=false then some ([0<=i/\l[i.toNat]? =some y],ors,S.put o.dst (.av (.ro y.cells 0)))else none
   |_,_,_,_=>none
  | none=>match S.ev x,S.ev i,tArr P t with
   | .ptr b k,.av (.val (.int _ i)),some (n,e)=>match Vak P e with
    |some (sz,_,_)=>some ([0<=i/\i<n],ors,S.put o.dst (.ptr b (k+i.toNat*sz)))
    |none=>none
   |_,_,_=>none
 | .call {callee:=.value x,args,argTypes:=_}=>match S.ev x,ors with
  | .fn f fs cs,.c res bx' gn gn'::ors=>match(Vb8 bx').all (λi=>decide (i<1000)||decide (2000<=i))with
   |true=>some ([Va2 P f (Vew S fs args.toList cs (!gn.isEmpty)) (S.bx.filter (λp=>(bx'.map (·.1)).contains p.1)) gn res bx' gn',gnOk S gn],ors,(S.upd bx' gn').put o.dst res)
   |false=>none
  |_,_=>none
 | .lookup _ _ _ _=>match Vb6 P o S,ors with
  |some ⟨ok,.av v,st⟩,.e y::ors=>some ([ok,v=y],ors,st.put o.dst (.av y))
  |_,_=>none
 |_=>match Vb6 P o S with
  |some r=>some ([r.ok],ors,r.st.put o.dst r.v)
  |none=>none
def Vg4(P:Program)(o:Oper)(ors:List Or)(S:St):Option (List Prop×List Or×St):=
 match Vbd P o ors S with
 |some (c,ors',v)=>some (c,ors',S.put o.dst v)
 |none=>Vh6 P o ors S
def Vdg(ds:List (Option Tmp))(S:St)(j:Nat):Option SV:=
 match(ds[j]?).join with
 |some t=>S.fr[t]?
 |none=>none
def Vda(P:Program)(ds:List (Option Tmp)):List Oper->List Or->St->Option (List Prop×List Or×St)
 |[],ors,S=>some ([],ors,S)
 | o::rest,ors,S=>match o.guard with
  | none=>match Vg4 P o ors S with
   |some (c1,ors1,S1)=>match Vda P ds rest ors1 S1 with
    |some (c2,r)=>some (c1++c2,r)
    |none=>none
   |none=>none
  | some (j,want)=>match Vdg ds S j with
   |some (.av (.tup []))=>Vda P ds rest ors (S.put o.dst Vas)
   | some (.av (.val (.bool b)))=>match ors with
    | .b d::ors=>if d=want then match Vg4 P o ors S with
      |some (c1,ors1,S1)=>match Vda P ds rest ors1 S1 with
       |some (c2,r)=>some ((b=d)::(c1++c2),r)
       |none=>none
      |none=>none
     else match Vda P ds rest ors (S.put o.dst Vas)with
      |some (c2,r)=>some ((b=d)::c2,r)
      |none=>none
    |_=>none
   |_=>none
def run(P:Program):Code->List Or->St->Option (List Prop×List Or×Exit×St)
 | .skip,ors,S=>some ([],ors,.normal,S)
 | .label _,ors,S=>some ([],ors,.normal,S)
 | .exit id,ors,S=>some ([],ors,.exit id,S)
 | .ret,ors,S=>some ([],ors,.ret,S)
 | .region _ ops false,ors,S=>match Vda P (ops.toList.map (·.dst)) ops.toList ors S with
  |some (c,ors,S)=>some (c,ors,.normal,S)
  |none=>none
 | .seq x y,ors,S=>match run P x ors S with
  |some (c1,ors1,.normal,S1)=>match run P y ors1 S1 with
   |some (c2,r)=>some (c1++c2,r)
   |none=>none
  |some r=>some r
  |none=>none
 | .cond c x y,ors,S=>match S.ev c,ors with
  | .av (.val (.bool b)),.b d::ors=>match(match d with|true=>run P x ors S|false=>run P y ors S)with
   |some (c2,r)=>some ((b=d)::c2,r)
   |none=>none
  |_,_=>none
 | .block id c,ors,S=>match run P c ors S with
  |some (c1,ors1,.exit id',S1)=>if id'=id then some (c1,ors1,.normal,S1)else some (c1,ors1,.exit id',S1)
  |r=>r
 |_,_,_=>none
def All:List Prop->Prop
 |[]=>True
 |p::l=>p/\All l
theorem Vb7{a b:List Prop}(h:All (a++b)):All a/\All b:=by
 induction a with
 |nil=>exact⟨trivial,h⟩
 |cons p a ih=>obtain⟨h1,h2⟩:=h;obtain⟨h3,h4⟩:=ih h2;exact⟨⟨h1,h3⟩,h4⟩
theorem Rel_upd{G G':Gh}{w w':World}{S:St}{a:Act}{bx':List (Nat×ABox)}{gn':List (Key×Nat)}(h:Rel G w S a)(he:Ext G w G' w')(hw:Wf G' w')(hk:∀ i:Nat,i ∉ bx'.map (·.1)->Keep G w G' w' (i,0))(ho:∀ i,i ∉ Vb8 bx'->G'.ow (i,0)=G.ow (i,0))
  (hg:∀ κ:Key,G'.gen κ=(gn'.lookup κ).getD (G.gen κ)) (hb:∀ p∈bx',RepB G' w' p.1 p.2):Rel G' w' (S.upd bx' gn') a:=by
 have hkey:∀(s:SV) κ,κ∈s.keys->κ.1 ∉ Vb8 bx'->G'.ow κ=G.ow κ:=by
  intro s κ hκ hn
  have:=s.keys_zero κ hκ;obtain⟨i,j⟩:=κ;simp only at this hn;subst this;exact ho i hn
 have hgen:∀ κ:Key,G'.gen κ=((gn'++gn'.foldl (λl p=>Vfp p.1 l) S.gn).lookup κ).getD 0:=by
  intro κ;rw[hg κ];simp only[List.lookup_append];cases hl:gn'.lookup κ with
  | none=>
   simp only[Option.getD_none,Option.none_or];rw[h.gn κ]
   have:∀(g l:List (Key×Nat)),g.lookup κ=none->(g.foldl (λl p=>Vfp p.1 l) l).lookup κ=l.lookup κ:=by
    intro g
    induction g with
    |nil=>intro l _;rfl
    |cons p g ih=>
     intro l hg;rw[List.lookup_eq_none_iff]at hg
     have hp:=hg p ku;simp only[Yg];rw[ih _ (by rw[List.lookup_eq_none_iff];exact λq hq=>hg q (by simp[hq])),Vg9 (by simpa using hp)]
   rw[this _ _ hl];rfl
  |some g=>simp
 have hnot:∀ q:Nat×ABox,bx'.lookup q.1=none->q.1 ∉ bx'.map (·.1):=by
  intro q hx hm;simp only[Zz]at hm;obtain⟨r,hr,hr1⟩:=hm;rw[List.lookup_eq_none_iff]at hx
  have:=hx r hr;simp at this;exact this hr1.symm
 unfold St.upd
 split
 ·rename_i hv
  have hkey:∀(s:SV) κ,κ∈s.keys->G'.ow κ=G.ow κ:=λs κ hκ=>hkey s κ hκ (by rw[hv];simp)
  refine⟨hw,h.size,λt s ht=>(h.fr t s ht).persist he (hkey s),λp hp=>?_,hgen,h.defers.trans he.df.symm⟩;simp only[Zz]at hp;obtain⟨q,hq,rfl⟩:=hp
  split
  ·rename_i x hx;exact unK_rep (hb _ (Vad hx))
  ·rename_i hx;exact(h.bx q hq).persist he (hk _ (hnot q hx)) (λκ hκ=>by simp only[Zt]at hκ;obtain⟨s,_,hs⟩:=hκ;exact hkey s κ hs)
 ·rename_i v vs hv;rw[<-hv];refine⟨hw,by simp only[List.length_map];exact h.size,λt s ht=>?_,λp hp=>?_,hgen,h.defers.trans he.df.symm⟩
  ·simp only[Zv,Zb]at ht;obtain⟨s0,h1,rfl⟩:=ht;exact(Vkt (h.fr t s0 h1)).persist he (λκ hκ=>hkey _ κ hκ (Vfo κ hκ))
  ·simp only[Zz]at hp;obtain⟨q,hq,rfl⟩:=hp
   split
   ·rename_i x hx;exact unK_rep (hb _ (Vad hx))
   ·rename_i hx;refine(forgetL_box (h.bx q hq)).persist he (hk _ (hnot q hx)) (λκ hκ=>?_);simp only[Zt]at hκ;obtain⟨s,hs1,hs⟩:=hκ;obtain⟨i,x⟩:=q;cases x with
    |cells t l=>
     simp only[ABox.forgetL,ABox.svs,Zz]at hs1;obtain⟨s0,_,rfl⟩:=hs1;exact hkey _ κ hs (Vfo κ hs)
    |mi ks l=>
     simp only[ABox.forgetL,ABox.svs,Zz]at hs1;obtain⟨s0,_,rfl⟩:=hs1;exact hkey _ κ hs (Vfo κ hs)
    |_=>simp[ABox.forgetL,ABox.svs]at hs1
theorem Vmq{G:Gh}{w:World}{S:St}{a:Act}(hr:Rel G w S a){fs cs:List PV}{vs us:List Value}(hf:RepPs G w fs vs)(hc:RepPs G w cs us)(args:List Operand)(keep:Bool):RepSs G w (Vew S fs args cs keep) (vs++(args.map a.eval++us)):=by
 have h1:∀ {l:List PV} {us:List Value},RepPs G w l us->RepSs G w (l.map PV.toSV) us:=by
  intro l
  induction l with
  |nil=>intro us h;exact h
  |cons p l ih=>intro us h;obtain⟨u,us',e,h2,h3⟩:=h;exact⟨u,us',e,h2.toSV,ih h3⟩
 have h2:∀ l:List Operand,RepSs G w (l.map (λx=>(S.ev x).normK keep)) (l.map a.eval):=by
  intro l
  induction l with
  |nil=>rfl
  |cons x l ih=>exact⟨_,_,rfl,(hr.ev x).normK keep,ih⟩
 exact(h1 hf).append ((h2 args).append (h1 hc))
theorem Vox{o:Oper}{ors ors':List Or}{S S':St}{cs:List Prop}(h:Vh6 P o ors S=some (cs,ors',S'))(hc:All cs){G:Gh}{w:World}{a:Act}(hr:Rel G w S a){Q:Exit->Act->World->Prop}{next:Act->World->Prop}
  (hn:∀ G' a' w',Step G w G' w'->Rel G' w' S' a'->(∀i,Fx i->G'.ow (i,0)=G.ow (i,0))->next a' w'):o.wp P a w next Q:=by
 have plain:∀ {r:Res},Sound P o S r->r.ok->S'=r.st.put o.dst r.v->o.wp P a w next Q:=by
  intro r hs hok hS;subst hS;obtain⟨nx,v,w',G',h1,h2,h3,h4,h5,h6⟩:=hs hok G w a hr;unfold Oper.wp;rw[h1];rcases h2 with rfl|⟨rfl,rfl⟩
  ·rw[Oper.upon_value];exact hn G' _ w' h3 (h4.put o.dst h5) h6
  ·rw[Oper.upon_skip];exact hn G' _ w' h3 (h4.put o.dst h5) h6
 unfold Vh6 at h
 split at h
 ·rename_i c x y ho
  split at h
  ·rename_i p d ors2 hp;simp only[Za,Zd]at h;obtain⟨rfl,_,rfl⟩:=h
   have hpd:p=d:=hc.1;subst hpd;refine plain (Vly ho hp) trivial ?_;cases p <;>rfl
  ·simp at h
 ·rename_i t x y t' ho
  split at h
  ·rename_i k i k' j m ors2 hx hy
   split at h
   ·rename_i hk;subst hk;simp only[Za,Zd]at h;obtain⟨rfl,_,rfl⟩:=h;refine plain (Vfc (r:=.int k (k.wrap (i+j))) (p:=True) ho hx hy (by simp[aBin])) trivial ?_;rw[hc.1]
   ·simp at h
  ·rename_i a b hx hy;simp only[Za,Zd]at h;obtain⟨rfl,_,rfl⟩:=h;exact plain (Vfc ho hx hy (by simp only[aBin])) hc.1 rfl
  ·simp at h
 ·rename_i t x y t' ho
  split at h
  ·rename_i k i k' j m ors2 hx hy
   split at h
   ·rename_i hk;subst hk;simp only[Za,Zd]at h;obtain⟨rfl,_,rfl⟩:=h;refine plain (Vfc (r:=.int k (k.wrap (i-j))) (p:=True) ho hx hy (by simp[aBin])) trivial ?_;rw[hc.1]
   ·simp at h
  ·simp at h
 ·rename_i t x y t' ho
  split at h
  ·rename_i k i k' j m ors2 hx hy
   split at h
   ·rename_i hk;subst hk;simp only[Za,Zd]at h;obtain⟨rfl,_,rfl⟩:=h;refine plain (Vfc (r:=.int k (k.wrap (i*j))) (p:=True) ho hx hy (by simp[aBin])) trivial ?_;rw[hc.1]
   ·simp at h
  ·simp at h
 ·rename_i t x i ho
  split at h
  ·rename_i e he
   split at h
   ·rename_i sz _ _ l _ i' y ors2 h2 h3 h4
    split at h
    ·rename_i hh;simp only[Za,Zd]at h;obtain⟨rfl,_,rfl⟩:=h;obtain⟨⟨hi0,hget⟩,_⟩:=hc
     have hlt:i'.toNat<l.length:=by
      rcases Zr i'.toNat l.length with h|h
      ·exact h
      ·simp[Zf h]at hget
     have hgd:l.getD i'.toNat (.val undef)=y:=by simp[List.getD,hget]
     refine plain (Vfb ho h3 h4 he h2 hh.1) ⟨hi0,by omega,by rw[hgd];exact hh.2.1,by rw[hgd];exact hh.2.2⟩ ?_;rw[hgd]
    ·simp at h
   ·simp at h
  ·split at h
   ·rename_i hx hi hta
    split at h
    ·rename_i hti;simp only[Za,Zd]at h;obtain⟨rfl,_,rfl⟩:=h;exact plain (Vd9 ho hx hi hta hti) hc.1 rfl
    ·simp at h
   ·simp at h
 ·rename_i x args tys ho
  split at h
  ·rename_i f fs cs' res bx' gn gn' ors2 hx
   split at h
   case h_2=>simp at h
   rename_i hvec;simp only[Za,Zd]at h;obtain⟨rfl,_,rfl⟩:=h;obtain⟨⟨⟨fn,hf1,hf2,hf3⟩,hcall⟩,hgn,_⟩:=hc
   have h1:=hr.ev x;rw[hx]at h1;obtain⟨vs,us,h2,h3,h4⟩:=h1
   have hargs:=Vmq hr h3 h4 args.toList (!gn.isEmpty)
   have hcall:=hcall G w _ hr.wf hargs (λp hp=>hr.bx p (List.mem_filter.1 hp).1) (λp hp=>by rw[hr.gn];exact gnOk_get hgn p hp)
   have hrun:(execOp a.eval o).run P w=.ok (.enter f (vs.toList++(args.toList.map a.eval++us.toList)).toArray) w:=by
    have hnone:fn.body.isNone=false:=by cases hb:fn.body <;>simp_all
    simp only[execOp,ho,resolve,h2,Deferred.ofValue,Sem.run_bind,Sem.run_pure,Result.andThen_ok,invoke,callFunc,run_program,hf1];rw[if_neg (by rw[hf3];simp)];simp only[hnone,Z6,if_false,Sem.run_pure];congr 2;apply Array.ext';simp
   unfold Oper.wp;rw[hrun,Oper.upon_enter];refine hcall.mono ?_;rintro e w' ⟨v,G',rfl,s1,s2,s3,s4,s5,s6,s7⟩
   have hrel:=Rel_upd (gn':=gn') hr s1.toExt s2 s5 s6 s7 s4;refine hn G' _ w' s1 (hrel.put o.dst s3) (λi hi=>s6 i (λhm=>?_))
   have:=Z0.1 hvec i hm;simp only[Bool.or_eq_true,decide_eq_true_eq]at this
   have h1:=hi.1;have h2:=hi.2;omega
  ·simp at h
 ·split at h
  ·rename_i ok v st y ors2 hs;simp only[Za,Zd]at h;obtain⟨rfl,_,rfl⟩:=h;refine plain (Vau hs) hc.1 ?_;rw[hc.2.1]
  ·simp at h
 ·split at h
  ·rename_i r hs;simp only[Za,Zd]at h;obtain⟨rfl,_,rfl⟩:=h;exact plain (Vau hs) hc.1 rfl
  ·simp at h
theorem Vbx{o:Oper}{ors ors':List Or}{S S':St}{cs:List Prop}(h:Vg4 P o ors S=some (cs,ors',S'))(hc:All cs){G:Gh}{w:World}{a:Act}(hr:Rel G w S a){Q:Exit->Act->World->Prop}{next:Act->World->Prop}
  (hn:∀ G' a' w',Step G w G' w'->Rel G' w' S' a'->(∀i,Fx i->G'.ow (i,0)=G.ow (i,0))->next a' w'):o.wp P a w next Q:=by
 have plain:∀ {r:Res},Sound P o S r->r.ok->S'=r.st.put o.dst r.v->o.wp P a w next Q:=by
  intro r hs hok hS;subst hS;obtain⟨nx,v,w',G',h1,h2,h3,h4,h5,h6⟩:=hs hok G w a hr;unfold Oper.wp;rw[h1];rcases h2 with rfl|⟨rfl,rfl⟩
  ·rw[Oper.upon_value];exact hn G' _ w' h3 (h4.put o.dst h5) h6
  ·rw[Oper.upon_skip];exact hn G' _ w' h3 (h4.put o.dst h5) h6
 unfold Vg4 at h
 split at h
 ·rename_i c ors2 v hv;obtain⟨p,rfl,hs⟩:=Vmu hv;simp only[Za,Zd]at h;obtain⟨rfl,rfl,rfl⟩:=h;exact plain hs hc.1 rfl
 ·exact Vox h hc hr hn
theorem Vbm{ops:Array Oper}{S:St}{j:Nat}{s:SV}(h:Vdg (ops.toList.map (·.dst)) S j=some s){G:Gh}{w:World}{a:Act}(hr:Rel G w S a):∃ t u,(ops[j]?).bind (·.dst)=some t/\a.tmps[t]? =some u/\RepS G w s u:=by
  unfold Vdg at h
  split at h
  · rename_i t ht
    have hd:(ops[j]?).bind (·.dst)=some t:=by
      simp only[Zv]at ht;cases ho:ops[j]? with
      | none => have:ops.toList[j]? =none:=by simpa using ho
                rw[this]at ht;simp at ht
      | some o => have:ops.toList[j]? =some o:=by simpa using ho
                  rw[this]at ht;simpa using ht
    have h1:=hr.fr t s h
    have hlt:t<a.tmps.size:=by
      rw[<-hr.size];rcases Zr t S.fr.length with h'|h'
      · exact h'
      · simp[Zf h']at h
    refine⟨t,a.tmps[t],hd,by simp[hlt],?_⟩;simpa[Array.getD_eq_getD_getElem?,hlt]using h1
  · simp at h
theorem Vdq{ops:Array Oper}:∀(l:List Oper)(ors ors':List Or)(S S':St)(cs:List Prop),Vda P (ops.toList.map (·.dst)) l ors S=some (cs,ors',S')->All cs->∀(G:Gh)(w:World)(a:Act),Rel G w S a->
  ∀Q:Exit->Act->World->Prop,(∀G' a' w',Step G w G' w'->Rel G' w' S' a'->(∀i,Fx i->G'.ow (i,0)=G.ow (i,0))->Q .normal a' w')->wpList P ops Q l a w
 |[],ors,ors',S,S',cs,h,hc,G,w,a,hr,Q,hq=>by
  simp only[Vda,Za,Zd]at h;obtain⟨_,_,rfl⟩:=h;exact hq G a w (Step.refl G w) hr (λ_ _=>rfl)
 | o::rest,ors,ors',S,S',cs,h,hc,G,w,a,hr,Q,hq=>by
  have Vgx:∀ G w,RepS G w Vas undef:=by
   intro G w;simp only[Vas,RepS,Rep];exact⟨#[],rfl,by simp[RepL]⟩
  have go:∀ {c1 ors0 ors1 S1 c2},Vg4 P o ors0 S=some (c1,ors1,S1)->All c1->Vda P (ops.toList.map (·.dst)) rest ors1 S1=some (c2,ors',S')->All c2->o.wp P a w (wpList P ops Q rest) Q:=by
   intro c1 ors0 ors1 S1 c2 h1 hc1 h2 hc2;exact Vbx h1 hc1 hr (λG' a' w' g1 g2 g3=>Vdq rest ors1 ors' S1 S' c2 h2 hc2 G' w' a' g2 Q (λG2 a2 w2 q1 q2 q3=>hq G2 a2 w2 (g1.trans q1) q2 (λi hi=>(q3 i hi).trans (g3 i hi))))
  simp only[Vda]at h;simp only[wpList]
  split at h
  ·rename_i hg;rw[if_pos (by simp[Region.wanted,hg])]
   split at h
   ·rename_i c1 ors1 S1 h1
    split at h
    ·rename_i c2 r h2;simp only[Za,Zd]at h;obtain⟨rfl,rfl⟩:=h;obtain⟨hc1,hc2⟩:=Vb7 hc;exact .inl (go h1 hc1 h2 hc2)
    ·simp at h
   ·simp at h
  ·rename_i j want hg
   split at h
   ·rename_i hs;obtain⟨t,u,e1,e2,e3⟩:=Vbm hs hr;simp only[RepS,Rep]at e3;obtain⟨us,rfl,_⟩:=e3
    have hwant:Region.wanted o (yielded ops a.tmps)=false:=by
     simp only[Region.wanted,hg,yielded,e1,Ya,e2];rfl
    rw[hwant];simp only[Z6,if_false];exact Vdq rest ors ors' _ S' cs h hc G w _ (hr.put o.dst (Vgx G w)) Q hq
   ·rename_i b hs;obtain⟨t,u,e1,e2,e3⟩:=Vbm hs hr;simp only[RepS,Rep]at e3;obtain⟨rfl,_⟩:=e3
    split at h
    ·rename_i d ors2
     split at h
     ·rename_i hd
      split at h
      ·rename_i c1 ors1 S1 h1
       split at h
       ·rename_i c2 r h2;simp only[Za,Zd]at h;obtain⟨rfl,rfl⟩:=h;obtain⟨hb,hc'⟩:=hc;obtain⟨hc1,hc2⟩:=Vb7 hc';subst hb hd;rw[if_pos (by simp only[Region.wanted,hg,yielded,e1,Ya,e2];simp)];exact .inl (go h1 hc1 h2 hc2)
       ·simp at h
      ·simp at h
     ·rename_i hd
      split at h
      ·rename_i c2 r h2;simp only[Za,Zd]at h;obtain⟨rfl,rfl⟩:=h;obtain⟨hb,hc'⟩:=hc;subst hb
       have hwant:Region.wanted o (yielded ops a.tmps)=false:=by
        simp only[Region.wanted,hg,yielded,e1,Ya,e2];cases b <;>cases want <;>simp_all
       rw[hwant];simp only[Z6,if_false];exact Vdq rest ors2 ors' _ S' c2 h2 hc' G w _ (hr.put o.dst (Vgx G w)) Q hq
      ·simp at h
    ·simp at h
   ·simp at h
end
end Go.Eng
