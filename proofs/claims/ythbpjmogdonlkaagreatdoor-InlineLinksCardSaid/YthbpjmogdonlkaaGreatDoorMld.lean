/- Texts joined by a program (merge.py). -/
import Derived.Test.YthbpjmogdonlkaaGreatDoorMlc
import Derived.Test.YthbpjmogdonlkaaGreatDoorMlb
import Derived.KernelRfl
import Derived.Scope
import Derived.Shelf.Lays
import Derived.Test.YthbpjmogdonlkaaGreatDoorProg
import Derived.Shelf.Small.Strs
import Derived.Shelf.Unicode.WordAny
import Derived.Shelf.Strings.IndexAny
import Derived.Shelf.Strings.SlTrimAscii
import Derived.Shelf.Strings.Prefix
import Derived.Below
set_option linter.unusedSimpArgs false
set_option linter.unusedVariables false
set_option maxRecDepth 100000
set_option maxHeartbeats 4000000
open Option.some renaming injEq -> Za
open Prod.mk renaming injEq -> Zb
open ByteArray renaming size -> Zc
open Nat renaming lt_or_ge -> Zd
open Bool renaming and_eq_true -> Ze
open Option renaming map_eq_some_iff -> Zf
open Bool renaming false_eq_true -> Zg
open List renaming getElem?_eq_none -> Zh
open List renaming map_cons -> Zi
open Option renaming isSome_iff_exists -> Zj
open List renaming all_eq_true -> Zk
open Array renaming getD_eq_getD_getElem? -> Zl
open List renaming getElem?_set -> Zm
open Option renaming bind_some -> Zn
open List renaming mem_map -> Zo
open List renaming mem_cons -> Zp
open List renaming mem_range -> Zq
open List.cons renaming injEq -> Zr
open Bool renaming or_eq_true -> Zs
open Nat renaming le_refl -> Zt
open Bool renaming not_eq_true' -> Zu
open List renaming range -> Zv
open List renaming mem_filterMap -> Zw
open List renaming cons_append -> Zx
open List renaming lookup_eq_none_iff -> Zy
open List renaming any_eq_false -> Zz
open Nat renaming lt_succ_self -> Z0
open List renaming length_set -> Z1
open List renaming mem_map_of_mem -> Z2
namespace Go.Eng
structure DS where
 ors:List Or
 gd:Option Bool
 v:SV
 out:Option (List (Nat×ABox)×List (Key×Nat))
abbrev BG:=List (Nat×ABox)×List (Key×Nat)
def putF(f:List SV)(d:Option Tmp)(v:SV):List SV:=
 match d with
 |some d=>f.set d v
 |none=>f
def Vea(ops:List Oper)(k:Nat):Option Tmp:=(ops[k]?).bind (·.dst)
def valOf(st:List DS)(k:Nat):SV:=((st[k]?).map (·.v)).getD .junk
def Vb2(st:List DS)(k:Nat):Option BG:=(st[k]?).bind (·.out)
def frD(ops:List Oper)(st:List DS)(f0:List SV)(L:Nat->Bool):Nat->List SV
 |0=>f0
 |m+1=>if L m then putF (frD ops st f0 L m) (Vea ops m) (valOf st m)else frD ops st f0 L m
def bxD(st:List DS)(b0:BG)(L:Nat->Bool):Nat->BG
 |0=>b0
 |m+1=>if L m then(Vb2 st m).getD (bxD st b0 L m)else bxD st b0 L m
def maskOf(o:Oper)(acc:List Nat):Nat:=o.after.toList.foldl (λs e=>if Region.binds .any e then s ||| (1 <<< e.on) ||| acc.getD e.on 0 else s) 0
def Vgo:List Oper->List Nat->List Nat
 |[],acc=>acc
 |o::l,acc=>Vgo l (acc++[maskOf o acc])
def looks(ops:List Oper)(o:Oper):List Nat:=
 (o.op.operands.toList.filterMap λ| .tmp t=>some t|_=>none)++(match o.guard with|some (j,_)=>(Vea ops j).toList|none=>[])++o.dst.toList
def Vdc(M:List Nat)(i k:Nat):Bool:=(decide (k<i)&&(M.getD i 0).testBit k)||(decide (i<k)&&(M.getD k 0).testBit i)
def Vky(ops:List Oper)(st:List DS)(M:List Nat):Bool:=
 (Zv ops.length).all fun i=>
  (match ops[i]? with|some o=>o.after.toList.all (λe=> !Region.binds .any e||decide (e.on<i))|none=>true)&&
  (Zv ops.length).all fun k=>i==k||Vdc M i k||
   (!(match ops[i]?,Vea ops k with|some o,some t=>(looks ops o).contains t|_,_=>false)&& !((Vb2 st i).isSome&&(Vb2 st k).isSome))
def Vd0(st:List DS)(b0:BG):Option Nat->BG
 |none=>b0
 |some e=>(Vb2 st e).getD b0
def Vcu(st:List DS):Nat->Option Nat
 |0=>none
 |m+1=>if(Vb2 st m).isSome then some m else Vcu st m
def cands(st:List DS)(M:List Nat)(n i:Nat):List (Option Nat):=
 if(Vb2 st i).isSome then[Vcu st i]else
 (if(Zv n).any (fun k=>(Vb2 st k).isSome&&(M.getD i 0).testBit k)then[]else[none])++
  ((Zv n).filter (λe=>(Vb2 st e).isSome&& !(M.getD e 0).testBit i&& !(Zv n).any (λk=>decide (e<k)&&(Vb2 st k).isSome&&(M.getD i 0).testBit k))).map some
def guardOk(sv:Option SV)(want:Bool)(gd:Option Bool):Option (List Prop×Bool):=
 match sv,gd with
 |some (.av (.tup [])),none=>some ([],false)
 |some (.av (.val (.bool b))),some d=>some ([b=d],d==want)
 |_,_=>none
def dRuns(P:Program)(o:Oper)(s:DS)(f:List SV)(st:List DS)(b0:BG):List (Option Nat)->Option (List Prop)
 |[]=>some []
 |c::l=>match runV P o s.ors ⟨f,(Vd0 st b0 c).1,(Vd0 st b0 c).2⟩,dRuns P o s f st b0 l with
  |some (cs,v,bx,gn),some r=>some (cs++(v=s.v/\(bx,gn)=s.out.getD (Vd0 st b0 c))::r)
  |_,_=>none
def alOk(ops:List Oper)(st:List DS)(M:List Nat)(f0:List SV)(i:Nat)(o:Oper):Bool:=
 match Vcv o.op,o.dst with
 |true,some id=>f0.all (λs=> !s.names id)&&(Zv ops.length).all (λk=> !(valOf st k).names id||k==i||(M.getD k 0).testBit i)
 |_,_=>true
section
variable {P:Program} {ops:List Oper} {st:List DS} {M:List Nat} {f0:List SV} {b0:BG}
theorem getElem?_putF{f:List SV}{d:Option Tmp}{v:SV}{t:Nat}(h:d≠some t):(putF f d v)[t]? =f[t]? :=by
 cases d with
 |none=>rfl
 |some d=>simp only[putF];rw[List.getElem?_set_ne (by intro e;exact h (by rw[e]))]
theorem length_putF{f:List SV}{d:Option Tmp}{v:SV}:(putF f d v).length=f.length:=by cases d <;>simp[putF]
theorem slot_agrees{L:Nat->Bool}{i t:Nat}(hi:L i=false)(h:∀ k,Vea ops k=some t->(k<i->L k=true)/\(i<k->L k=false)):∀ m,(frD ops st f0 L m)[t]? =(frD ops st f0 (λ_=>true) (min m i))[t]? :=by
 intro m
 induction m with
 |zero=>simp[frD]
 | succ m ih=>
  simp only[frD]
  by_cases hd:Vea ops m=some t
  ·rcases Nat.lt_trichotomy m i with hlt|heq|hgt
   ·have:=(h m hd).1 hlt;rw[if_pos this,show min (m+1) i=m+1 by omega];simp only[frD,if_true,hd,putF];rw[Zm,Zm,show min m i=m by omega]at *
    simp only[if_true]
    have hl:(frD ops st f0 L m).length=(frD ops st f0 (λ_=>true) m).length:=by
     have:∀(L:Nat->Bool) m,(frD ops st f0 L m).length=f0.length:=by
      intro L m
      induction m with
      |zero=>rfl
      |succ m ih=>simp only[frD];split <;>simp[length_putF,ih]
     rw[this,this]
    rw[hl]
   ·subst heq;rw[hi];simp only[Zg,if_false];rw[ih];congr 2;omega
   ·rw[(h m hd).2 hgt];simp only[Zg,if_false];rw[ih];congr 2;omega
  ·have e1:(if L m then putF (frD ops st f0 L m) (Vea ops m) (valOf st m)else frD ops st f0 L m)[t]? =(frD ops st f0 L m)[t]? :=by
    split
    ·exact getElem?_putF hd
    ·rfl
   rw[e1,ih];rcases Zd m i with hlt|hge
   ·rw[show min (m+1) i=m+1 by omega,show min m i=m by omega];simp only[frD,if_true];rw[getElem?_putF hd]
   ·congr 2;omega
theorem putF_comm{f:List SV}{d e:Option Tmp}{u v:SV}(h:∀ t,d=some t->e≠some t):putF (putF f d u) e v=putF (putF f e v) d u:=by
 cases d with
 |none=>rfl
 |some d=>cases e with
  |none=>rfl
  |some e=>simp only[putF];exact List.set_comm _ _ (by intro he;exact h d rfl (by rw[he]))
def also(L:Nat->Bool)(i:Nat):Nat->Bool:=λk=>if k=i then true else L k
theorem fr_also{L:Nat->Bool}{i:Nat}(hi:L i=false)(h:∀ k,i<k->L k=true->∀ t,Vea ops i=some t->Vea ops k≠some t):∀ m,i<m->frD ops st f0 (also L i) m=putF (frD ops st f0 L m) (Vea ops i) (valOf st i):=by
 have below:∀ m,m<=i->frD ops st f0 (also L i) m=frD ops st f0 L m:=by
  intro m
  induction m with
  |zero=>intro _;rfl
  |succ m ih=>
   intro hm;simp only[frD,also,if_neg (show ¬m=i by omega)];rw[<-ih kv]
 intro m
 induction m with
 |zero=>intro hm;omega
 | succ m ih=>
  intro hm;rcases Zd i m with hlt|hge
  ·have ih':=ih hlt;simp only[frD];rw[show also L i m=L m by simp only[also,if_neg (show ¬m=i by omega)]];cases hL:L m
   ·simp only[Zg,if_false];exact ih'
   ·simp only[if_true];rw[ih'];exact putF_comm (λt ht=>h m hlt hL t ht)
  ·have:m=i:=by omega
   subst this;simp only[frD,hi,Zg,if_false];rw[show also L m m=true by simp[also],if_pos rfl,below m (Zt _)]
theorem Vq9{L:Nat->Bool}{i:Nat}(hp:Vb2 st i=none):∀ m,bxD st b0 (also L i) m=bxD st b0 L m:=by
 intro m
 induction m with
 |zero=>rfl
 |succ m ih=>
  simp only[bxD,ih]
  by_cases hm:m=i
  ·subst hm;simp[hp]
  ·rw[show also L i m=L m by simp only[also,if_neg hm]]
theorem bx_also_eff{L:Nat->Bool}{i:Nat}{b:BG}(hp:Vb2 st i=some b)(h:∀ k,i<k->(Vb2 st k).isSome=true->L k=false):∀ m,i<m->bxD st b0 (also L i) m=b:=by
 intro m
 induction m with
 |zero=>intro hm;omega
 | succ m ih=>
  intro hm;simp only[bxD];rcases Zd i m with hlt|hge
  ·rw[ih hlt,show also L i m=L m by simp only[also,if_neg (show ¬m=i by omega)]];cases ho:Vb2 st m with
   |none=>simp
   |some c=>rw[h m hlt (by rw[ho];rfl)];simp
  ·have:m=i:=by omega
   subst this;rw[show also L m m=true by simp[also],if_pos rfl,hp];rfl
theorem bx_last{L:Nat->Bool}:∀ m,(bxD st b0 L m=b0/\∀ k,k<m->(Vb2 st k).isSome=true->L k=false)\/∃ e,e<m/\L e=true/\(Vb2 st e).isSome=true/\bxD st b0 L m=Vd0 st b0 (some e)/\∀ k,e<k->k<m->(Vb2 st k).isSome=true->L k=false:=by
 intro m
 induction m with
 |zero=>exact .inl ⟨rfl,λk hk=>by omega⟩
 | succ m ih=>
  simp only[bxD];cases ho:Vb2 st m with
  | none=>
   have e1:(if L m=true then(none:Option BG).getD (bxD st b0 L m)else bxD st b0 L m)=bxD st b0 L m:=by split <;>rfl
   rw[e1];rcases ih with⟨h1,h2⟩|⟨e,h1,h2,h3,h4,h5⟩
   ·refine .inl ⟨h1,λk hk hs=>?_⟩;rcases Zd k m with h|h
    ·exact h2 k h hs
    ·have:k=m:=by omega
     subst this;rw[ho]at hs;simp at hs
   ·refine .inr ⟨e,by omega,h2,h3,h4,λk hk1 hk2 hs=>?_⟩;rcases Zd k m with h|h
    ·exact h5 k hk1 h hs
    ·have:k=m:=by omega
     subst this;rw[ho]at hs;simp at hs
  | some b=>
   cases hL:L m
   ·simp only[Zg,if_false];rcases ih with⟨h1,h2⟩|⟨e,h1,h2,h3,h4,h5⟩
    ·refine .inl ⟨h1,λk hk hs=>?_⟩;rcases Zd k m with h|h
     ·exact h2 k h hs
     ·have:k=m:=by omega
      subst this;exact hL
    ·refine .inr ⟨e,by omega,h2,h3,h4,λk hk1 hk2 hs=>?_⟩;rcases Zd k m with h|h
     ·exact h5 k hk1 h hs
     ·have:k=m:=by omega
      subst this;exact hL
   ·exact .inr ⟨m,by omega,hL,by rw[ho];rfl,by simp[Vd0,ho],λk hk1 hk2 _=>by omega⟩
theorem Vfj{L:Nat->Bool}:∀ i,(∀k,k<i->(Vb2 st k).isSome=true->L k=true)->bxD st b0 L i=Vd0 st b0 (Vcu st i):=by
 intro i
 induction i with
 |zero=>intro _;rfl
 | succ i ih=>
  intro h;simp only[bxD,Vcu];cases ho:Vb2 st i with
  |none=>simp only[Option.isSome_none,Zg,if_false];rw[<-ih (λk hk=>h k kv)];split <;>rfl
  |some b=>
   rw[h i kv (by rw[ho];rfl)];simp[Vd0,ho]
theorem bx_upto{L:Nat->Bool}{i:Nat}(hi:L i=false)(h:∀ k,i<k->(Vb2 st k).isSome=true->L k=false):∀ m,i<=m->bxD st b0 L m=bxD st b0 L i:=by
  intro m
  induction m with
  | zero => intro hm;have:i=0:=by omega
            subst this;rfl
  | succ m ih=>
    intro hm;rcases Zd m i with hlt|hge
    · have:i=m+1:=by omega
      subst this;rfl
    · simp only[bxD];rw[<-ih hge];rcases Zd i m with h1|h1
      · cases ho:Vb2 st m with
        |none=>split <;>rfl
        |some b=>rw[h m h1 (by rw[ho];rfl)];simp
      · have:m=i:=by omega
        subst this;rw[hi];simp
theorem Vfi(L:Nat->Bool):∀(l:List Oper)(acc:List Nat),(∀j o,l[j]? =some o->L (acc.length+j)=true->∀ e∈o.after,Region.binds .any e=true->L e.on=true)->
  (∀k,k<acc.length->L k=true->∀ i,(acc.getD k 0).testBit i=true->L i=true)->∀ k,L k=true->∀ i,((Vgo l acc).getD k 0).testBit i=true->L i=true
 |[],acc,_,ha,k,hk,i,hi=>by
  simp only[Vgo]at hi;rcases Zd k acc.length with h|h
  ·exact ha k h hk i hi
  ·simp[List.getD,Zh h]at hi
 | o::l,acc,he,ha,k,hk,i,hi=>by
  simp only[Vgo]at hi;refine Vfi L l (acc++[maskOf o acc]) (λj o' hj hL=>?_) (λk hk' hL i hi=>?_) k hk i hi
  ·exact he (j+1) o' (by simpa using hj) (by rw[<-hL];congr 1;simp;omega)
  ·simp at hk';rcases Zd k acc.length with h|h
   ·refine ha k h hL i ?_;simpa[List.getD,List.getElem?_append_left h]using hi
   ·have hk2:k=acc.length:=by omega
    subst hk2;simp only[List.getD,List.getElem?_append_right (Zt _),Nat.sub_self,List.getElem?_cons_zero,Option.getD_some]at hi
    have hedge:∀ e∈o.after,Region.binds .any e=true->L e.on=true:=he 0 o ku (by simpa using hL);unfold maskOf at hi
    have key:∀(es:List Edge)(s:Nat),(∀e∈es,Region.binds .any e=true->L e.on=true)->(∀i,s.testBit i=true->L i=true)->∀ i,(es.foldl (λs e=>if Region.binds .any e then s ||| (1 <<< e.on) ||| acc.getD e.on 0 else s) s).testBit i=true->L i=true:=by
     intro es
     induction es with
     |nil=>intro s _ hs i hi;exact hs i hi
     | cons e es ih=>
      intro s hes hs i hi;simp only[List.foldl_cons]at hi;refine ih _ (λe' he'=>hes e' (by simp[he'])) (λi hi=>?_) i hi
      split at hi
      ·rename_i hb
       have hLe:=hes e ku hb;simp only[Nat.testBit_or,Zs]at hi;rcases hi with(hi|hi)|hi
       ·exact hs i hi
       ·rw[Nat.testBit_shiftLeft]at hi;simp only[ge_iff_le,Ze,decide_eq_true_eq]at hi
        have:i=e.on:=by
         have h1:=hi.2
         have:i-e.on=0:=by
          rcases Nat.eq_zero_or_pos (i-e.on)with h|h
          ·exact h
          ·rw[Nat.testBit_one_eq_true_iff_self_eq_zero]at h1;exact h1
         omega
        rw[this];exact hLe
       ·rcases Zd e.on acc.length with h|h
        ·exact ha e.on h hLe i hi
        ·simp[List.getD,Zh h]at hi
      ·exact hs i hi
    exact key o.after.toList 0 (λe he'=>hedge e (by simpa using he')) (λi hi=>by simp at hi) i hi
end
end Go.Eng
namespace Go.Eng
section
variable {P:Program} {ops:List Oper} {st:List DS} {M:List Nat} {f0:List SV} {b0:BG}
theorem Vpu{L L':Nat->Bool}:∀ m,(∀k,k<m->L k=L' k)->frD ops st f0 L m=frD ops st f0 L' m
 |0,_=>rfl
 |m+1,h=>by simp only[frD];rw[h m kv,Vpu m (λk hk=>h k kv)]
theorem Vqa{L L':Nat->Bool}:∀ m,(∀k,k<m->L k=L' k)->bxD st b0 L m=bxD st b0 L' m
 |0,_=>rfl
 |m+1,h=>by simp only[bxD];rw[h m kv,Vqa m (λk hk=>h k kv)]
theorem Vq1{o:Oper}{s:DS}{f:List SV}:∀ {l:List (Option Nat)} {cs:List Prop},dRuns P o s f st b0 l=some cs->All cs->∀ c∈l,∃cs',runV P o s.ors ⟨f,(Vd0 st b0 c).1,(Vd0 st b0 c).2⟩=some (cs',s.v,(s.out.getD (Vd0 st b0 c)).1,(s.out.getD (Vd0 st b0 c)).2)/\All cs'
 |[],_,_,_,c,hc=>by simp at hc
 | d::l,cs,h,ha,c,hc=>by
  simp only[dRuns]at h
  split at h
  ·rename_i cs1 v bx gn r h1 h2;simp only[Za]at h;subst h;obtain⟨ha1,⟨hv,hb⟩,ha2⟩:=Vb7 ha;rcases Zp.1 hc with rfl|hc
   ·subst hv;rw[<-hb];exact⟨cs1,h1,ha1⟩
   ·exact Vq1 h2 ha2 c hc
  ·simp at h
structure Good (ops:List Oper) (st:List DS) (M:List Nat) (L:Nat->Bool) (i:Nat) (o:Oper):Prop where
 un:L i=false
 slot:∀ t∈looks ops o,∀k,Vea ops k=some t->(k<i->L k=true)/\(i<k->L k=false)
 eff:∀ k,(Vb2 st i).isSome=true->(Vb2 st k).isSome=true->(k<i->L k=true)/\(i<k->L k=false)
 down:∀ k,(M.getD i 0).testBit k=true->k≠i->L k=true
 up:∀ k,L k=true->(M.getD k 0).testBit i=false
theorem good_of{L:Nat->Bool}{i:Nat}{o:Oper}(hM:M=Vgo ops [])(hs:Vky ops st M=true)(hst:st.length<=ops.length)(hlt:∀ k,L k=true->k<ops.length)(hi:ops[i]? =some o)(hun:L i=false)
  (hcl:∀ k ok,ops[k]? =some ok->L k=true->∀ e∈ok.after,Region.binds .any e=true->L e.on=true) (hr:∀ e∈o.after,Region.binds .any e=true->L e.on=true):Good ops st M L i o:=by
 have hil:i<ops.length:=by
  rcases Zd i ops.length with h|h
  ·exact h
  ·simp[Zh h]at hi
 have down:∀ k,(M.getD i 0).testBit k=true->k≠i->L k=true:=by
  intro k hk hne
  have:=Vfi (also L i) ops [] (λj oj hj hL e he hb=>by
   simp only[List.length_nil,Nat.zero_add,also]at hL ⊢
   split at hL
   ·rename_i hji;subst hji;rw[hi]at hj;simp only[Za]at hj;subst hj
    split
    ·rfl
    ·exact hr e he hb
   ·split
    ·rfl
    ·exact hcl j oj hj hL e he hb) (λk hk=>by simp at hk) i (by simp[also]) k (by rw[<-hM];exact hk)
  simpa[also,hne]using this
 have up:∀ k,L k=true->(M.getD k 0).testBit i=false:=by
  intro k hk;cases hb:(M.getD k 0).testBit i with
  |false=>rfl
  |true=>
   have:=Vfi L ops [] (λj oj hj hL e he hb=>hcl j oj hj (by simpa using hL) e he hb) (λk hk=>by simp at hk) k hk i (by rw[<-hM];exact hb);rw[hun]at this;simp at this
 have ord:∀ k,Vdc M i k=true->(k<i->L k=true)/\(i<k->L k=false):=by
  intro k ho;simp only[Vdc,Zs,Ze,decide_eq_true_eq]at ho;rcases ho with⟨h1,h2⟩|⟨h1,h2⟩
  ·exact⟨λ_=>down k h2 kv,λh=>by omega⟩
  ·refine⟨λh=>by omega,λ_=>?_⟩;cases hL:L k with
   |false=>rfl
   |true=>rw[up k hL]at h2;simp at h2
 have stat:∀ k,k<ops.length->k≠i->Vdc M i k=true\/((∀t,Vea ops k=some t->t ∉ looks ops o)/\¬ ((Vb2 st i).isSome=true/\(Vb2 st k).isSome=true)):=by
  intro k hk hne;simp only[Vky,Zk,Zq]at hs
  have h1:=hs i hil;simp only[hi,Ze]at h1
  have h2:=h1.2;simp only[Zk,Zq]at h2
  have h3:=h2 k hk;simp only[Zs,beq_iff_eq,Ze]at h3;rcases h3 with(h3|h3)|⟨h3,h4⟩
  ·exact absurd h3.symm hne
  ·exact .inl h3
  ·refine .inr ⟨λt ht hmem=>?_,λ⟨q1,q2⟩=>?_⟩
   ·rw[ht]at h3;simp only[Zu,List.contains_eq_mem]at h3;simp[hmem]at h3
   ·simp[q1,q2]at h4
 refine⟨hun,λt ht k hk=>?_,λk h1 h2=>?_,down,up⟩
 ·have hkl:k<ops.length:=by
   rcases Zd k ops.length with h|h
   ·exact h
   ·simp[Vea,Zh h]at hk
  by_cases hne:k=i
  ·subst hne;exact⟨λh=>by omega,λh=>by omega⟩
  ·rcases stat k hkl hne with h|⟨h,_⟩
   ·exact ord k h
   ·exact absurd ht (h t hk)
 ·have hkl:k<ops.length:=by
   rcases Zd k ops.length with h|h
   ·exact h
   ·simp[Vb2,Zh (Nat.le_trans hst h)]at h2
  by_cases hne:k=i
  ·subst hne;exact⟨λh=>by omega,λh=>by omega⟩
  ·rcases stat k hkl hne with h|⟨_,h⟩
   ·exact ord k h
   ·exact absurd ⟨h1,h2⟩ h
theorem cand_mem{L:Nat->Bool}{i:Nat}{o:Oper}(hg:Good ops st M L i o)(hil:i<ops.length):∃ c∈cands st M ops.length i,bxD st b0 L ops.length=Vd0 st b0 c:=by
 cases ho:(Vb2 st i).isSome with
 |true=>
  refine⟨Vcu st i,by simp[cands,ho],?_⟩;rw[bx_upto hg.un (λk hk hs=>(hg.eff k ho hs).2 hk) ops.length kv];exact Vfj i (λk hk hs=>(hg.eff k ho hs).1 hk)
 | false=>
  simp only[cands,ho,Zg,if_false]
  have hsome:∀ k,(Vb2 st k).isSome=true->k≠i:=by intro k hk e;subst e;rw[ho]at hk;simp at hk
  rcases bx_last (st:=st) (b0:=b0) (L:=L) ops.length with⟨h1,h2⟩|⟨e,h1,h2,h3,h4,h5⟩
  ·refine⟨none,List.mem_append_left _ ?_,h1⟩;rw[if_neg]
   ·simp
   ·intro hany;simp only[List.any_eq_true,Zq,Ze]at hany;obtain⟨k,hk,hk1,hk2⟩:=hany
    have:=hg.down k hk2 (hsome k hk1);rw[h2 k hk hk1]at this;simp at this
  ·refine⟨some e,List.mem_append_right _ (Zo.2 ⟨e,List.mem_filter.2 ⟨Zq.2 h1,?_⟩,rfl⟩),h4⟩;simp only[Ze,h3,true_and,Zu];refine⟨hg.up e h2,?_⟩;rw[Bool.eq_false_iff];intro hany;simp only[List.any_eq_true,Zq,Ze,decide_eq_true_eq]at hany;obtain⟨k,hk,⟨hk0,hk1⟩,hk2⟩:=hany
   have:=hg.down k hk2 (hsome k hk1);rw[h5 k hk0 hk hk1]at this;simp at this
theorem Vmm{L:Nat->Bool}{i:Nat}{o:Oper}{s:DS}(hg:Good ops st M L i o)(hi:ops[i]? =some o)(hil:i<ops.length)(hs:st[i]? =some s):
  ({fr:=frD ops st f0 (also L i) ops.length,bx:=(bxD st b0 (also L i) ops.length).1,gn:=(bxD st b0 (also L i) ops.length).2}:St)
   =((⟨frD ops st f0 L ops.length,(s.out.getD (bxD st b0 L ops.length)).1,(s.out.getD (bxD st b0 L ops.length)).2⟩:St).put o.dst s.v):=by
 have hout:Vb2 st i=s.out:=by simp[Vb2,hs]
 have hd:Vea ops i=o.dst:=by simp[Vea,hi]
 have hv:valOf st i=s.v:=by simp[valOf,hs]
 have e1:bxD st b0 (also L i) ops.length=s.out.getD (bxD st b0 L ops.length):=by
  cases ho:s.out with
  |none=>rw[Vq9 (by rw[hout,ho])];rfl
  |some b=>rw[bx_also_eff (b:=b) (by rw[hout,ho]) (λk hk hks=>(hg.eff k (by rw[hout,ho];rfl) hks).2 hk) _ hil];rfl
 have e2:frD ops st f0 (also L i) ops.length=putF (frD ops st f0 L ops.length) o.dst s.v:=by
  rw[fr_also hg.un (λk hk hL t ht hkt=>?_) _ hil,hd,hv]
  have:=(hg.slot t (by rw[hd]at ht;simp[looks,ht]) k hkt).2 hk;rw[this]at hL;simp at hL
 rw[e1,e2];cases hd:o.dst <;>rfl
theorem Vos{L:Nat->Bool}{i:Nat}{o:Oper}(hg:Good ops st M L i o)(hil:i<ops.length){t:Nat}(ht:t∈looks ops o):(frD ops st f0 L ops.length)[t]? =(frD ops st f0 (λ_=>true) i)[t]? :=by
 rw[slot_agrees hg.un (hg.slot t ht) ops.length,show min ops.length i=i by omega]
end
theorem Rel.draw{G:Gh}{w:World}{S:St}{a:Act}(h:Rel G w S a):Step G w G {w with drawn:=w.drawn+1}/\Rel G {w with drawn:=w.drawn+1} S a:=by
 have hs:Step G w G {w with drawn:=w.drawn+1}:=⟨⟨λ_=>Zt _,⟨λ_ _ _=>rfl,λ_ _ _ _ h=>h,λ_ _ _ h=>h,λ_ _ _ _ _ h=>h,λ_ _ _ _ h=>h⟩,Zt _,rfl,rfl,rfl,λ_ _=>rfl,λ_=>Zt _,λ_ _ _=>⟨rfl,λ_ _=>⟨rfl,rfl⟩⟩⟩,λ_ _ _=>⟨rfl,rfl⟩,λκ _ h=>.inl ⟨κ,h⟩⟩
 exact⟨hs,h.keep hs.toExt ⟨h.wf.inj,h.wf.lt,h.wf.zero⟩ (λ_ _=>⟨rfl,λ_ _=>⟨rfl,rfl⟩⟩) rfl⟩
theorem least_false{n:Nat}{L:Nat->Bool}(h:¬ ∀i,i<n->L i=true):∃ i,i<n/\L i=false/\∀ k,k<i->L k=true:=by
 induction n with
 |zero=>exact absurd (λi hi=>by omega) h
 | succ n ih=>
  by_cases hn:∀ i,i<n->L i=true
  ·refine⟨n,by omega,?_,hn⟩;cases hL:L n with
   |false=>rfl
   | true=>
    exact absurd (λi hi=>by
     rcases Zd i n with h1|h1
     ·exact hn i h1
     ·have:i=n:=by omega
      subst this;exact hL) h
  ·obtain⟨i,h1,h2,h3⟩:=ih hn;exact⟨i,by omega,h2,h3⟩
def left(L:Nat->Bool):Nat->Nat
 |0=>0
 |m+1=>left L m+if L m then 0 else 1
theorem Vpj{L:Nat->Bool}:∀ {m},left L m=0->∀ i,i<m->L i=true
 |0,_,i,hi=>by omega
 | m+1,h,i,hi=>by
  simp only[left]at h;rcases Zd i m with h1|h1
  ·exact Vpj kv i h1
  ·have:i=m:=by omega
   subst this;cases hL:L i with
   |true=>rfl
   |false=>rw[hL]at h;simp at h
theorem Vpk{L:Nat->Bool}{i:Nat}(hL:L i=false):∀ {m},i<m->left (also L i) m+1=left L m
 |0,hi=>by omega
 | m+1,hi=>by
  simp only[left];rcases Zd i m with h1|h1
  ·have:=Vpk hL h1;rw[show also L i m=L m by simp only[also,if_neg (show ¬m=i by omega)]];omega
  ·have:i=m:=by omega
   subst this
   have hb:∀ m,m<=i->left (also L i) m=left L m:=by
    intro m
    induction m with
    |zero=>intro _;rfl
    |succ m ih=>
     intro hm;simp only[left];rw[ih kv,show also L i m=L m by simp only[also,if_neg (show ¬m=i by omega)]]
   rw[hb i (Zt _),hL];simp[also]
theorem Vl6{ops:List Oper}{st:List DS}{M:List Nat}{f0:List SV}{i:Nat}{o:Oper}{L:Nat->Bool}(h:alOk ops st M f0 i o=true)(hun:L i=false)(hup:∀ k,L k=true->(M.getD k 0).testBit i=false)(ha:Vcv o.op=true)(id:Nat)(hd:o.dst=some id):∀ n,n<=ops.length->(frD ops st f0 L n).any (SV.names id)=false:=by
 unfold alOk at h;rw[ha,hd]at h;simp only[Ze,Zk,Zq]at h;obtain⟨h1,h2⟩:=h;intro n
 induction n with
 |zero=>
  intro _;simp only[frD];rw[Zz];intro s hs
  have:=h1 s hs;simpa using this
 | succ m ih=>
  intro hm;simp only[frD]
  have ih:=ih kv
  split
  ·rename_i hL
   have hv:(valOf st m).names id=false:=by
    have:=h2 m kv;simp only[Zs,Zu,beq_iff_eq]at this;rcases this with(h|h)|h
    ·exact h
    ·subst h;rw[hun]at hL;simp at hL
    ·rw[hup m hL]at h;simp at h
   cases Vea ops m with
   |none=>exact ih
   |some d=>
    simp only[putF];rw[Zz]at ih ⊢;intro s hs;rcases List.mem_or_eq_of_mem_set hs with h|h
    ·exact ih s h
    ·subst h;simpa using hv
  ·exact ih
end Go.Eng
namespace Go.Eng
structure Inv (σ:Key->Key):Prop where
 inv:∀ κ,σ (σ κ)=κ
 snd:∀ κ,(σ κ).2=κ.2
def swapK(a b:Key)(κ:Key):Key:=if κ=a then b else if κ=b then a else κ
theorem Vaf(a b:Key)(h:a.2=b.2):Inv (swapK a b):=by
 refine⟨λκ=>?_,λκ=>?_⟩
 ·unfold swapK
  by_cases h1:κ=a
  ·subst h1
   by_cases h2:b=κ
   ·simp[h2]
   ·simp[h2]
  ·by_cases h2:κ=b
   ·subst h2;simp[h1]
   ·simp[h1,h2]
 ·unfold swapK
  by_cases h1:κ=a
  ·subst h1;simp[h]
  ·by_cases h2:κ=b
   ·subst h2;simp[h1,h]
   ·simp[h1,h2]
def PV.ren(σ:Key->Key):PV->PV
 | .av x=>.av x
 | .ptr b o=>.ptr (σ (b,0)).1 o
 | .mp b=>.mp (σ (b,0)).1
def CV.ren(σ:Key->Key):CV->CV
 | .own k g sz l=>.own (σ k) g sz l
 |x=>x
def XV.ren(σ:Key->Key):XV->XV
 | .c x=>.c (x.ren σ)
 | .a l=>.a (l.map (CV.ren σ))
def SV.ren(σ:Key->Key):SV->SV
 | .ptr b o=>.ptr (σ (b,0)).1 o
 | .mp b=>.mp (σ (b,0)).1
 | .own k g sz l=>.own (σ k) g sz l
 | .fn f fs cs=>.fn f (fs.map (PV.ren σ)) (cs.map (PV.ren σ))
 | .son b=>.son (σ (b,0)).1
 | .vs b n=>.vs (σ (b,0)).1 n
 | .vp b sz i o=>.vp (σ (b,0)).1 sz i o
 | .vw b sz o n=>.vw (σ (b,0)).1 sz o n
 | .ag l=>.ag (l.map (CV.ren σ))
 | .tp l=>.tp (l.map (XV.ren σ))
 |s=>s
def ABox.ren(σ:Key->Key):ABox->ABox
 | .cells t l=>.cells t (l.map (SV.ren σ))
 | .mi ks l=>.mi ks (l.map (SV.ren σ))
 |x=>x
def renB(σ:Key->Key)(bx:List (Nat×ABox)):List (Nat×ABox):=bx.map (λp=>((σ (p.1,0)).1,p.2.ren σ))
def renG(σ:Key->Key)(gn:List (Key×Nat)):List (Key×Nat):=gn.map (λp=>(σ p.1,p.2))
def Gh.ren(σ:Key->Key)(G:Gh):Gh:=⟨G.U,G.cp,λκ=>G.ow (σ κ),λκ=>G.gen (σ κ),G.df⟩
section
variable {σ:Key->Key} (hσ:Inv σ)
include hσ
theorem Gh.ren_ren(G:Gh):(G.ren σ).ren σ=G:=by
 obtain⟨U,cp,ow,gen,df⟩:=G;simp only[Gh.ren,hσ.inv]
theorem key0(b:Nat):((σ (b,0)).1,0)=σ (b,0):=by
 exact Prod.ext rfl (hσ.snd (b,0)).symm
theorem RepP_ren{G:Gh}{w:World}{p:PV}{u:Value}:RepP (G.ren σ) w p u ↔ RepP G w (p.ren σ) u:=by
 cases p with
 |av x=>exact Iff.rfl
 |ptr b o=>simp only[RepP,PV.ren,Gh.ren,key0 hσ]
 |mp b=>simp only[RepP,PV.ren,Gh.ren,key0 hσ]
theorem Vqq{G:Gh}{w:World}:∀ {l:List PV} {us:List Value},RepPs (G.ren σ) w l us ↔ RepPs G w (l.map (PV.ren σ)) us
 |[],us=>Iff.rfl
 |p::l,us=>by simp only[RepPs,Zi,RepP_ren hσ,Vqq (l:=l)]
theorem RepC_ren{G:Gh}{w:World}{s:CV}{u:Value}:RepC (G.ren σ) w s u ↔ RepC G w (s.ren σ) u:=by
 cases s with
 |av x=>exact Iff.rfl
 |nil=>exact Iff.rfl
 |own k g sz l=>simp only[RepC,RepOwn,CapZ,CV.ren,Gh.ren,hσ.snd]
theorem Vlf{G:Gh}{w:World}:∀ {l:List CV} {us:List Value},RepCs (G.ren σ) w l us ↔ RepCs G w (l.map (CV.ren σ)) us
 |[],us=>Iff.rfl
 |x::l,us=>by simp only[RepCs,Zi,RepC_ren hσ,Vlf (l:=l)]
theorem RepX_ren{G:Gh}{w:World}{s:XV}{u:Value}:RepX (G.ren σ) w s u ↔ RepX G w (s.ren σ) u:=by
 cases s with
 |c x=>exact RepC_ren hσ
 |a l=>simp only[RepX,XV.ren,Vlf hσ]
theorem Vqp{G:Gh}{w:World}:∀ {l:List XV} {us:List Value},RepXs (G.ren σ) w l us ↔ RepXs G w (l.map (XV.ren σ)) us
 |[],us=>Iff.rfl
 |x::l,us=>by simp only[RepXs,Zi,RepX_ren hσ,Vqp (l:=l)]
theorem RepS_ren{G:Gh}{w:World}{s:SV}{u:Value}:RepS (G.ren σ) w s u ↔ RepS G w (s.ren σ) u:=by
 cases s with
 |junk=>exact Iff.rfl
 |nil=>exact Iff.rfl
 |av x=>exact Iff.rfl
 |ptr b o=>simp only[RepS,SV.ren,Gh.ren,key0 hσ]
 |mp b=>simp only[RepS,SV.ren,Gh.ren,key0 hσ]
 |own k g sz l=>
  simp only[RepS,RepOwn,CapZ,SV.ren,Gh.ren,hσ.snd]
 |ag l=>simp only[RepS,SV.ren,Vlf hσ]
 |tp l=>simp only[RepS,SV.ren,Vqp hσ]
 |clo l=>exact Iff.rfl
 |son b=>simp only[RepS,SV.ren,Gh.ren,key0 hσ]
 |vs b n=>simp only[RepS,SV.ren,Gh.ren,key0 hσ]
 |vp b sz i o=>simp only[RepS,SV.ren,Gh.ren,key0 hσ]
 |vw b sz o n=>simp only[RepS,SV.ren,Gh.ren,key0 hσ]
 |fn f fs cs=>simp only[RepS,SV.ren,Vqq hσ]
theorem Vho{G:Gh}{w:World}:∀ {l:List SV} {us:List Value},RepSs (G.ren σ) w l us ↔ RepSs G w (l.map (SV.ren σ)) us
 |[],us=>Iff.rfl
 |p::l,us=>by simp only[RepSs,Zi,RepS_ren hσ,Vho (l:=l)]
theorem RepB_ren{G:Gh}{w:World}{id:Nat}{x:ABox}:RepB (G.ren σ) w id x ↔ RepB G w (σ (id,0)).1 (x.ren σ):=by
 cases x with
 |cells t l=>simp only[RepB,ABox.ren,Gh.ren,key0 hσ];simp only[<-Vho hσ,Gh.ren]
 |map ks vs=>simp only[RepB,ABox.ren,Gh.ren,key0 hσ]
 |mi ks l=>simp only[RepB,ABox.ren,Gh.ren,key0 hσ];simp only[<-Vho hσ,Gh.ren]
 |vec e sz l=>simp only[RepB,ABox.ren,Gh.ren,key0 hσ]
 |ge n=>simp only[RepB,ABox.ren]
 |gl b vs=>simp only[RepB,ABox.ren,Gh.ren,key0 hσ]
 |it s pos=>simp only[RepB,ABox.ren,Gh.ren,key0 hσ]
 |vck e sz l=>simp only[RepB,ABox.ren,Gh.ren,key0 hσ]
theorem Wf_ren{G:Gh}{w:World}(h:Wf G w):Wf (G.ren σ) w:=
 ⟨λκ κ' b h1 h2=>by have:=h.inj (σ κ) (σ κ') b h1 h2;have:=congrArg σ this;rwa[hσ.inv,hσ.inv]at this,λκ b h1=>h.lt (σ κ) b h1,h.zero⟩
theorem Step_ren{G G':Gh}{w w':World}(h:Step G w G' w'):Step (G.ren σ) w (G'.ren σ) w':=by
 refine⟨⟨h.U,h.imm,h.size,h.os,h.tape,h.output,h.cp,λκ=>h.gen (σ κ),λκ h0 hg=>?_⟩,λb hb hn=>h.stay b hb (λκ hκ=>hn (σ κ) (by simp only[Gh.ren,hσ.inv];exact hκ)),λκ b hκ=>?_⟩
 ·have h0':0<(σ κ).2:=by rw[hσ.snd];exact h0
  exact h.tok (σ κ) h0' hg
 ·rcases h.rng (σ κ) b hκ with⟨κ',h'⟩|h'
  ·exact .inl ⟨σ κ',by simp only[Gh.ren,hσ.inv];exact h'⟩
  ·exact .inr h'
theorem Vm5:∀(gn:List (Key×Nat))(κ:Key),(renG σ gn).lookup κ=gn.lookup (σ κ)
 |[],κ=>rfl
 | (k,g)::gn,κ=>by
  have ih:=Vm5 gn κ;simp only[renG,Zi,List.lookup_cons]at ih ⊢
  have:(κ==σ k)=(σ κ==k):=by
   rw[Bool.eq_iff_iff];simp only[beq_iff_eq];constructor
   ·intro h;rw[h,hσ.inv]
   ·intro h;rw[<-h,hσ.inv]
  rw[this,ih]
include hσ in
theorem vecIds_ren(bx:List (Nat×ABox))(j:Nat):j∈Vb8 bx ↔ (σ (j,0)).1∈Vb8 (renB σ bx):=by
 have hinj:∀ i j:Nat,(σ (i,0)).1=(σ (j,0)).1->i=j:=by
  intro i j h
  have h1:σ (i,0)=σ (j,0):=by rw[<-key0 hσ i, <-key0 hσ j,h]
  have h2:=congrArg σ h1;rw[hσ.inv,hσ.inv]at h2;exact(Prod.mk.inj h2).1
 induction bx with
 |nil=>simp[Vb8,renB]
 | cons p l ih=>
  obtain⟨i,x⟩:=p;cases x with
  |vec e sz q=>
   simp only[Vb8,renB,Zi,ABox.ren,Zp];exact or_congr ⟨λe=>by rw[e],λe=>hinj _ _ e⟩ ih
  |cells t q=>simpa only[Vb8,renB,Zi,ABox.ren]using ih
  |map ks vs=>simpa only[Vb8,renB,Zi,ABox.ren]using ih
  |mi ks l=>simpa only[Vb8,renB,Zi,ABox.ren]using ih
  |ge n=>simpa only[Vb8,renB,Zi,ABox.ren]using ih
  |gl b vs=>simpa only[Vb8,renB,Zi,ABox.ren]using ih
  |it s pos=>simpa only[Vb8,renB,Zi,ABox.ren]using ih
  |vck e sz l=>simpa only[Vb8,renB,Zi,ABox.ren]using ih
theorem Vaa{P:Program}{f:FuncId}{args:List SV}{bx:List (Nat×ABox)}{gn:List (Key×Nat)}{res:SV}{bx':List (Nat×ABox)}{gn':List (Key×Nat)}(h:Va2 P f args bx gn res bx' gn'):
  Va2 P f (args.map (SV.ren σ)) (renB σ bx) (renG σ gn) (res.ren σ) (renB σ bx') (renG σ gn'):=by
 refine⟨h.1,λG w vs hw hargs hbx hgn=>?_⟩;refine(h.2 (G.ren σ) w vs (Wf_ren hσ hw) ((Vho hσ).2 hargs) (λp hp=>(RepB_ren hσ).2 (hbx _ (Z2 hp))) (λp hp=>hgn _ (Z2 (f:=λp:Key×Nat=>(σ p.1,p.2)) hp))).mono ?_;rintro e w' ⟨v,G',he,s1,s2,s3,s4,s5,s6,s7⟩
 have hgg:=Gh.ren_ren hσ G
 have hs:=Step_ren hσ s1;rw[hgg]at hs;refine⟨v,G'.ren σ,he,hs,Wf_ren hσ s2,?_,?_,?_,?_,?_⟩
 ·rw[<-RepS_ren hσ,Gh.ren_ren hσ];exact s3
 ·intro p hp;simp only[renB,Zo]at hp;obtain⟨q,hq,rfl⟩:=hp;simp only;rw[<-RepB_ren hσ,Gh.ren_ren hσ];exact s4 q hq
 ·intro i hi
  have hj:(σ (i,0)).1 ∉ bx'.map (·.1):=by
   intro hm;simp only[Zo]at hm;obtain⟨p,hp,hpe⟩:=hm;refine hi ?_;simp only[renB,List.map_map,Zo,Function.comp];exact⟨p,hp,by rw[hpe,key0 hσ,hσ.inv]⟩
  have hk:=s5 _ hj;rw[key0 hσ]at hk;obtain⟨k1,k2⟩:=hk;refine⟨?_,λb hb=>k2 b ?_⟩
  ·simp only[Gh.ren]at k1 ⊢;rw[k1,hσ.inv]
  ·simp only[Gh.ren,hσ.inv];exact hb
 ·intro i hiv
  have:=s6 (σ (i,0)).1 (λhm=>hiv (by have h:=(vecIds_ren hσ bx' (σ (i,0)).1).1 hm;rw[key0 hσ,hσ.inv]at h;exact h));rw[key0 hσ]at this;simp only[Gh.ren]at this ⊢;rw[this,hσ.inv]
 ·intro κ;rw[Vm5 hσ]
  have:=s7 (σ κ);simp only[Gh.ren]at this ⊢;rw[this,hσ.inv]
end
def Ghost(S S':St):Prop:=∀ G w a,Rel G w S a->∃ G',Step G w G' w/\Rel G' w S' a/\∀ i,Fx i->G'.ow (i,0)=G.ow (i,0)
theorem W_ghost{P:Program}{c:Code}{Q:Exit->St->Prop}{S S':St}(hg:Ghost S S')(h:W P c Q S'):W P c Q S:=by
 intro G w a hr;obtain⟨G',h1,h2,h3⟩:=hg G w a hr;exact Code.wp_mono (λe a' w' hl=>Vcj h1 h3 hl) (h G' w a h2)
theorem Ghost.trans{S S' S'':St}(h:Ghost S S')(k:Ghost S' S''):Ghost S S'':=by
 intro G w a hr;obtain⟨G1,h1,h2,h3⟩:=h G w a hr;obtain⟨G2,k1,k2,k3⟩:=k G1 w a h2;exact⟨G2,h1.trans k1,k2,λi hi=>(k3 i hi).trans (h3 i hi)⟩
abbrev j0:SV:=.av (.tup [])
abbrev jI(n:Int):SV:=.av (.val (.int .i64 n))
abbrev jB(b:Bool):SV:=.av (.val (.bool b))
abbrev jS(s:ByteArray):SV:=.av (.val (.string s))
abbrev jL(l:List AV):SV:=.av (.sl l)
abbrev vI(n:Int):AV:=.val (.int .i64 n)
abbrev vB(b:Bool):AV:=.val (.bool b)
abbrev vS(s:ByteArray):AV:=.val (.string s)
end Go.Eng
namespace Go.Eng
def frOf(n:Nat)(l:List (Nat×SV)):List SV:=(Zv n).map (λi=>(l.lookup i).getD .junk)
def sx(n:Nat)(l:List (Nat×SV))(bx:List (Nat×ABox))(gn:List (Key×Nat)):St:=⟨frOf n l,bx,gn⟩
abbrev Seen:=Nat×List (Option SV)×List (Nat×ABox)×List (Key×Nat)
def sees(S:St)(ks:List Nat):Seen:=(S.fr.length,ks.map (λk=>S.fr[k]?),S.bx,S.gn)
def seen(r:Option (List Prop×List Or×Exit×St))(ks:List Nat):Option (List Prop×List Or×Exit×Seen):=
 match r with
 |some (cs,o,e,S)=>some (cs,o,e,sees S ks)
 |none=>none
def Viu(l:List (Nat×SV)):List Nat:=l.map (·.1)
def Vir(l:List (Nat×SV)):List (Option SV):=l.map (λp=>some p.2)
theorem lookup_mem2{α:Type}{l:List (Nat×α)}{b:Nat}{x:α}(h:l.lookup b=some x):(b,x)∈l:=by
 induction l with
 |nil=>simp at h
 |cons p l ih=>
  obtain⟨k,y⟩:=p;simp only[List.lookup_cons]at h
  split at h
  ·rename_i hk;simp at hk h;subst hk h;simp
  ·simp[ih h]
theorem frOf_get{n:Nat}{l:List (Nat×SV)}{t:Nat}{s:SV}(h:(frOf n l)[t]? =some s):t<n/\s=(l.lookup t).getD .junk:=by
 simp only[frOf,List.getElem?_map,Zf]at h;obtain⟨i,h1,rfl⟩:=h
 have hlt:t<n:=by
  rcases Zd t (Zv n).length with h|h
  ·simpa using h
  ·simp[Zh h]at h1
 simp[List.getElem?_range hlt]at h1;subst h1;exact⟨hlt,rfl⟩
theorem frOf_length(n:Nat)(l:List (Nat×SV)):(frOf n l).length=n:=by simp[frOf]
theorem vals_get{f:List SV}:∀ {l:List (Nat×SV)},(Viu l).map (λk=>f[k]?)=Vir l->∀ p∈l,f[p.1]? =some p.2
 |[],_,p,hp=>by simp at hp
 |q::l,h,p,hp=>by
  simp only[Viu,Vir,Zi,Zr]at h;simp only[Zp]at hp;rcases hp with rfl|hp
  ·exact h.1
  ·exact vals_get (l:=l) h.2 p hp
theorem W_end{P:Program}{c:Code}{Q:Exit->St->Prop}{S:St}(h:W P c (λe S1=>∃ S2,Weak S1 S2/\Q e S2) S):W P c Q S:=by
 intro G w a hr;refine Code.wp_mono (λe a' w' hl=>?_) (h G w a hr);obtain⟨S1,G1,⟨S2,hg,hq⟩,h2,h3,h4⟩:=hl;exact⟨S2,G1,hq,h2,hg G1 w' a' h3,h4⟩
end Go.Eng
namespace Go.Proofs.YthbpjmogdonlkaaGreatDoor
open Go Go.Eng
end Go.Proofs.YthbpjmogdonlkaaGreatDoor
namespace Go.Eng
abbrev oF:Or:=.b false
def rp(n:Nat)(x:Or)(l:List Or):List Or:=List.replicate n x++l
def Vne:Nat->Prop->List Prop->List Prop
 |0,_,l=>l
 |n+1,p,l=>p::Vne n p l
theorem acn(n:Nat){p:Prop}{l:List Prop}(hp:p)(h:All l):All (Vne n p l):=by
 induction n with
 |zero=>exact h
 |succ n ih=>exact⟨hp,ih⟩
theorem akn(n:Nat){l:List Prop}(h:All l):All (Vne n True l):=acn n trivial h
theorem tt:true=true:=rfl
theorem ff:false=false:=rfl
theorem wrE(x m:Int)(h:x=m/\ -9223372036854775808<=x/\x<=9223372036854775807):IntKind.i64.wrap x=m:=by
 rw[wrap_i64 h.2.1 h.2.2];exact h.1
abbrev SeenB:=Nat×List (Option SV)×List (Option ABox)×List (Key×Nat)
def seesB(S:St)(ks bs:List Nat):SeenB:=(S.fr.length,ks.map (λk=>S.fr[k]?),bs.map (λb=>S.bx.lookup b),S.gn)
def Vqd(l:List (Nat×ABox)):List Nat:=l.map (·.1)
def Vqc(l:List (Nat×ABox)):List (Option ABox):=l.map (λp=>some p.2)
theorem Vqb{f:List (Nat×ABox)}:∀ {l:List (Nat×ABox)},(Vqd l).map (λk=>f.lookup k)=Vqc l->∀ p∈l,f.lookup p.1=some p.2
 |[],_,p,hp=>by simp at hp
 |q::l,h,p,hp=>by
  simp only[Vqd,Vqc,Zi,Zr]at h;simp only[Zp]at hp;rcases hp with rfl|hp
  ·exact h.1
  ·exact Vqb (l:=l) h.2 p hp
theorem Vfx{S:St}{n:Nat}{l:List (Nat×SV)}{bx:List (Nat×ABox)}{gn:List (Key×Nat)}(h:seesB S (Viu l) (Vqd bx)=(n,Vir l,Vqc bx,gn)):Weak S (sx n l bx gn):=by
 simp only[seesB,Zb]at h;obtain⟨h1,h2,h3,h4⟩:=h;intro G w a hr;refine⟨hr.wf,?_,λt s ht=>?_,λp hp=>?_,?_,hr.defers⟩
 ·simp only[sx,frOf_length];rw[<-h1];exact hr.size
 ·obtain⟨_,rfl⟩:=frOf_get ht;cases hl:l.lookup t with
  |none=>trivial
  |some v=>exact hr.fr t v (vals_get h2 _ (lookup_mem2 hl))
 ·exact hr.bx p (Vad (Vqb h3 p hp))
 ·intro k;rw[hr.gn k];simp only[sx,St.gen,h4]
theorem Vca{P:Program}{ops:Array Oper}{more:List Oper}:∀(l:List Oper)(ors ors':List Or)(S S':St)(cs:List Prop),Vda P (ops.toList.map (·.dst)) l ors S=some (cs,ors',S')->All cs->∀(G:Gh)(w:World)(a:Act),Rel G w S a->
  ∀Q:Exit->Act->World->Prop,(∀G' a' w',Step G w G' w'->Rel G' w' S' a'->(∀i,Fx i->G'.ow (i,0)=G.ow (i,0))->wpList P ops Q more a' w')->wpList P ops Q (l++more) a w
 |[],ors,ors',S,S',cs,h,hc,G,w,a,hr,Q,hq=>by
  simp only[Vda,Za,Zb]at h;obtain⟨_,_,rfl⟩:=h;exact hq G a w (Step.refl G w) hr (λ_ _=>rfl)
 | o::rest,ors,ors',S,S',cs,h,hc,G,w,a,hr,Q,hq=>by
  have Vgx:∀ G w,RepS G w Vas undef:=by
   intro G w;simp only[Vas,RepS,Rep];exact⟨#[],rfl,by simp[RepL]⟩
  have go:∀ {c1 ors0 ors1 S1 c2},Vg4 P o ors0 S=some (c1,ors1,S1)->All c1->Vda P (ops.toList.map (·.dst)) rest ors1 S1=some (c2,ors',S')->All c2->o.wp P a w (wpList P ops Q (rest++more)) Q:=by
   intro c1 ors0 ors1 S1 c2 h1 hc1 h2 hc2;exact Vbx h1 hc1 hr (λG' a' w' g1 g2 g3=>Vca rest ors1 ors' S1 S' c2 h2 hc2 G' w' a' g2 Q (λG2 a2 w2 q1 q2 q3=>hq G2 a2 w2 (g1.trans q1) q2 (λi hi=>(q3 i hi).trans (g3 i hi))))
  simp only[Vda]at h;simp only[Zx,wpList]
  split at h
  ·rename_i hg;rw[if_pos (by simp[Region.wanted,hg])]
   split at h
   ·rename_i c1 ors1 S1 h1
    split at h
    ·rename_i c2 r h2;simp only[Za,Zb]at h;obtain⟨rfl,rfl⟩:=h;obtain⟨hc1,hc2⟩:=Vb7 hc;exact .inl (go h1 hc1 h2 hc2)
    ·simp at h
   ·simp at h
  ·rename_i j want hg
   split at h
   ·rename_i hs;obtain⟨t,u,e1,e2,e3⟩:=Vbm hs hr;simp only[RepS,Rep]at e3;obtain⟨us,rfl,_⟩:=e3
    have hwant:Region.wanted o (yielded ops a.tmps)=false:=by
     simp only[Region.wanted,hg,yielded,e1,Zn,e2];rfl
    rw[hwant];simp only[Zg,if_false];exact Vca rest ors ors' _ S' cs h hc G w _ (hr.put o.dst (Vgx G w)) Q hq
   ·rename_i b hs;obtain⟨t,u,e1,e2,e3⟩:=Vbm hs hr;simp only[RepS,Rep]at e3;obtain⟨rfl,_⟩:=e3
    split at h
    ·rename_i d ors2
     split at h
     ·rename_i hd
      split at h
      ·rename_i c1 ors1 S1 h1
       split at h
       ·rename_i c2 r h2;simp only[Za,Zb]at h;obtain⟨rfl,rfl⟩:=h;obtain⟨hb,hc'⟩:=hc;obtain⟨hc1,hc2⟩:=Vb7 hc';subst hb hd;rw[if_pos (by simp only[Region.wanted,hg,yielded,e1,Zn,e2];simp)];exact .inl (go h1 hc1 h2 hc2)
       ·simp at h
      ·simp at h
     ·rename_i hd
      split at h
      ·rename_i c2 r h2;simp only[Za,Zb]at h;obtain⟨rfl,rfl⟩:=h;obtain⟨hb,hc'⟩:=hc;subst hb
       have hwant:Region.wanted o (yielded ops a.tmps)=false:=by
        simp only[Region.wanted,hg,yielded,e1,Zn,e2];cases b <;>cases want <;>simp_all
       rw[hwant];simp only[Zg,if_false];exact Vca rest ors2 ors' _ S' c2 h2 hc' G w _ (hr.put o.dst (Vgx G w)) Q hq
      ·simp at h
    ·simp at h
   ·simp at h
def WO(P:Program)(ops:Array Oper)(l:List Oper)(Q:St->Prop)(S:St):Prop:=
 ∀(more:List Oper)(Q':Exit->Act->World->Prop)(G:Gh)(w:World)(a:Act),Rel G w S a->
  (∀S' G' a' w',Q S'->Step G w G' w'->Rel G' w' S' a'->(∀i,Fx i->G'.ow (i,0)=G.ow (i,0))->wpList P ops Q' more a' w')->wpList P ops Q' (l++more) a w
theorem Van{P:Program}{id:Nat}{ops:Array Oper}{Q:Exit->St->Prop}{S:St}(h:WO P ops ops.toList (Q .normal) S):W P (.region id ops false) Q S:=
 λG w a hr=>wp_region_list (by
  have:=h [] (lift Q G w) G w a hr (λS' G' a' w' h1 h2 h3 h4=>⟨S',G',h1,h2,h3,h4⟩);rw[List.append_nil]at this
  exact this)
theorem Vbk{P:Program}{ops:Array Oper}{l:List Oper}{Q:St->Prop}{S:St}(hl:l.length=0)(h:Q S):WO P ops l Q S:=by
 have:l=[]:=List.length_eq_zero_iff.1 hl;subst this;intro more Q' G w a hr hq;exact hq S G a w h (Step.refl G w) hr (λ_ _=>rfl)
theorem Vo7{P:Program}{ops:Array Oper}{l:List Oper}{Q:St->Prop}{S S':St}(n:Nat)(h1:WO P ops (l.take n) (λS1=>Weak S1 S') S)(h2:WO P ops (l.drop n) Q S'):WO P ops l Q S:=by
 intro more Q' G w a hr hq
 have e:l++more=l.take n++(l.drop n++more):=by rw[<-List.append_assoc,List.take_append_drop]
 rw[e];refine h1 _ Q' G w a hr (λS1 G1 a1 w1 k1 k2 k3 k4=>?_);exact h2 _ Q' G1 w1 a1 (k1 G1 w1 a1 k3) (λS2 G2 a2 w2 q1 q2 q3 q4=>hq S2 G2 a2 w2 q1 (k2.trans q2) q3 (λi hi=>(q4 i hi).trans (k4 i hi)))
def seenO(r:Option (List Prop×List Or×St))(ks bs:List Nat):Option (List Prop×List Or×SeenB):=
 match r with
 |some (cs,o,S)=>some (cs,o,seesB S ks bs)
 |none=>none
theorem Vla{P:Program}{ops:Array Oper}{l:List Oper}{S:St}{cs:List Prop}{Q:St->Prop}(ors:List Or)(n:Nat)(sl:List (Nat×SV))(bx:List (Nat×ABox))(gn:List (Key×Nat))(hc:All cs)
  (h:seenO (Vda P (ops.toList.map (·.dst)) l ors S) (Viu sl) (Vqd bx)=some (cs,[],n,Vir sl,Vqc bx,gn)) (hq:Q (sx n sl bx gn)):WO P ops l Q S:=by
 unfold seenO at h
 split at h
 ·rename_i cs' o S1 hr;simp only[Za,Zb]at h;obtain⟨rfl,rfl,h4⟩:=h;intro more Q' G w a hrel hcont;refine Vca l ors _ S S1 _ hr hc G w a hrel Q' (λG' a' w' q1 q2 q3=>?_);exact hcont _ G' a' w' hq q1 (Vfx (n:=n) (l:=sl) (bx:=bx) (gn:=gn) h4 G' w' a' q2) q3
 ·simp at h
theorem Vmw{sz:Nat}{x:AV}(h:x.cells.length=sz)(h2:x.isTup=false):Uni sz [x]:=by intro y hy;simp only[List.mem_singleton]at hy;subst hy;exact⟨h,h2⟩
theorem nott{b:Bool}(h:(!b)=true):b=false:=by cases b <;>simp_all
theorem notf{b:Bool}(h:(!b)=false):b=true:=by cases b <;>simp_all
theorem Va9{a x:Bool}(h:cond a x false=true):a=true/\x=true:=by cases a <;>simp_all
theorem Vae{a y:Bool}(h:cond a true y=false):a=false/\y=false:=by cases a <;>simp_all
theorem Va5{α:Type}(Q:α->Prop){b:Bool}{x y:α}(h1:b=true->Q x)(h2:b=false->Q y):Q (cond b x y):=by cases b;exact h2 rfl;exact h1 rfl
theorem Vnz(b:Bool)(x y:Int):cond b x y=x\/cond b x y=y:=by cases b <;>simp
inductive Oq where
 |o (x:Or)
 |w (l:List AV)
 |j (o1 o2:List Oq)
 |s (ts:List Nat) (o1 o2:List Oq)
 |p (i:Nat)
def still:Op->Bool
 | .move _=>true
 | .assign _=>true
 | .pick _ _ _=>true
 | .binOp _ _ _ _ _=>true
 | .unOp _ _ _=>true
 | .extract _ _=>true
 | .nilCheck _=>true
 | .fieldAddr _ _ _=>true
 | .load _ _=>true
 | .indexAddr _ _ _=>true
 | .index _ _ _=>true
 | .slice _ _ _ _ none=>true
 | .lookup _ _ _ _=>true
 | .convert _ _ _=>true
 | .build _ _=>true
 | .buildSlice _ _ _=>true
 | .call {callee:=.builtin .len,args:=_,argTypes:=_}=>true
 | .call {callee:=.builtin .max,args:=_,argTypes:=_}=>true
 | .call {callee:=.builtin .min,args:=_,argTypes:=_}=>true
 | .call {callee:=.value _,args:=_,argTypes:=_}=>true
 |_=>false
def Vi7:Or->Bool
 | .c _ [] _ []=>true
 | .c _ _ _ _=>false
 |_=>true
def wOp:Op->Bool
 | .slice _ _ _ _ _=>true
 | .call {callee:=.builtin .append,args:=_,argTypes:=_}=>true
 |_=>false
def Vcd(S:St)(d:Option Tmp):SV:=match d with
 |some d=>S.fr.getD d .junk
 |none=>.junk
def normW(o:Oper)(r:List Prop×List Oq×St):Option (List Prop×List Oq×St):=
 match Vcd r.2.2 o.dst,r.2.1 with
 | .own k g sz l0,.w l::ors=>some (r.1++[l0=l],ors,r.2.2.put o.dst (.own k g sz l))
 | .av (.sl l0),.w l::ors=>some (r.1++[l0=l],ors,r.2.2.put o.dst (.av (.sl l)))
 | .av (.val _),_=>some r
 | .vs _ _,_=>some r
 | .vw _ _ _ _,_=>some r
 |_,_=>none
def exec0(P:Program)(md:Bool)(o:Oper)(ors:List Oq)(S:St):Option (List Prop×List Oq×St):=
 match Vg4 P o [] S with
 |some (c,_,S1)=>some (c,ors,S1)
 | none=>match ors with
  | .o x::ors=>match Vg4 P o [x] S,Vi7 x|| !md with
   |some (c,[],S1),true=>some (c,ors,S1)
   |_,_=>none
  |_=>none
def exec(P:Program)(md:Bool)(o:Oper)(ors:List Oq)(S:St):Option (List Prop×List Oq×St):=
 match wOp o.op with
 |false=>exec0 P md o ors S
 |true=>match exec0 P md o ors S with
  |some r=>normW o r
  |none=>none
def litB(lits:List Nat)(S:St):Operand->Option Bool
 | .tmp t=>match lits.contains t,S.ev (.tmp t)with
  |true,.av (.val (.bool b))=>some b
  |_,_=>none
 |_=>none
def Vns(P:Program)(md:Bool)(lits:List Nat)(o:Oper)(ors:List Oq)(S:St):Option (List Prop×List Oq×St):=
 match o.op with
 | .pick c x y=>match litB lits S c with
  |some b=>some ([],ors,S.put o.dst (match b with|true=>S.ev x|false=>S.ev y))
  |none=>exec P md o ors S
 |_=>exec P md o ors S
def mrg(b:Bool):SV->SV->Option SV
 | .av (.val (.bool x)),.av (.val (.bool y))=>some (.av (.val (.bool (cond b x y))))
 | .av (.val (.int k x)),.av (.val (.int k' y))=>if k=k' then some (.av (.val (.int k (cond b x y))))else none
 | .av (.val (.string x)),.av (.val (.string y))=>some (.av (.val (.string (cond b x y))))
 | .av (.sl x),.av (.sl y)=>some (.av (.sl (cond b x y)))
 |_,_=>none
def Vfe(t:Nat):List Oper->Nat
 |[]=>0
 |o::l=>match o.op with
  | .pick (.tmp c) _ _=>if c=t then 1 else Vfe t l+1
  |_=>Vfe t l+1
def Vbn(l:List Oper):List Nat:=l.filterMap (·.dst)
def Vde(S:St)(ts:List Nat):St:=ts.foldl (λS t=>S.put (some t) .junk) S
def Vkl(l:List Oper):Option Tmp:=match l.getLast? with
 |some o=>o.dst
 |none=>none
def runG(P:Program)(ds:List (Option Tmp)):Bool->Nat->List Nat->List Oper->List Oq->St->Option (List Prop×List Oq×St)
 |_,_,_,[],ors,S=>some ([],ors,S)
 |_,0,_,_::_,_,_=>none
 | md,n+1,lits,o::rest,ors,S=>match o.guard with
  | none=>match Vns P md lits o ors S with
   |some (c1,ors1,S1)=>match runG P ds md n lits rest ors1 S1 with
    |some (c2,r)=>some (c1++c2,r)
    |none=>none
   |none=>none
  | some (j,want)=>match(ds[j]?).join with
   |none=>none
   | some t=>match S.fr[t]? with
    |some (.av (.tup []))=>runG P ds md n lits rest ors (S.put o.dst Vas)
    | some (.av (.val (.bool b)))=>match lits.contains t with
     | true=>match(match want with|true=>b|false=> !b)with
      | true=>match Vns P md lits o ors S with
       |some (c1,ors1,S1)=>match runG P ds md n lits rest ors1 S1 with
        |some (c2,r)=>some (c1++c2,r)
        |none=>none
       |none=>none
      |false=>runG P ds md n lits rest ors (S.put o.dst Vas)
     | false=>match ors with
      | .o (.b d)::ors=>if d=want then match Vns P md lits o ors S with
        |some (c1,ors1,S1)=>match runG P ds md n lits rest ors1 S1 with
         |some (c2,r)=>some ((b=d)::(c1++c2),r)
         |none=>none
        |none=>none
       else match runG P ds md n lits rest ors (S.put o.dst Vas)with
        |some (c2,r)=>some ((b=d)::c2,r)
        |none=>none
      | .j o1 o2::ors=>match((o::rest).take (Vfe t (o::rest))).all (fun o=>still o.op),runG P ds true n (t::lits) ((o::rest).take (Vfe t (o::rest))) o1 (S.put (some t) (.av (.val (.bool true)))),runG P ds true n (t::lits) ((o::rest).take (Vfe t (o::rest))) o2 (S.put (some t) (.av (.val (.bool false))))with
       | true,some (c1,[],S1),some (c2,[],S2)=>match mrg b (Vcd S1 (Vkl ((o::rest).take (Vfe t (o::rest))))) (Vcd S2 (Vkl ((o::rest).take (Vfe t (o::rest)))))with
        |some v=>match runG P ds md n lits ((o::rest).drop (Vfe t (o::rest))) ors ((Vde S (Vbn ((o::rest).take (Vfe t (o::rest))))).put (Vkl ((o::rest).take (Vfe t (o::rest)))) v)with
         |some (c3,r)=>some ((b=true->All c1)::(b=false->All c2)::c3,r)
         |none=>none
        |none=>none
       |_,_,_=>none
      |_=>none
    |_=>none
theorem Vex{P:Program}{o:Oper}{S:St}{r:Res}(h:Vb6 P o S=some r)(hs:still o.op=true):r.st=S:=by
 unfold Vb6 at h
 split at h
 all_goals first|(rename_i ho;rw[ho]at hs)|(simp at h;done)
 all_goals try (simp only[still,Zg]at hs;done)
 all_goals try (simp only[Za]at h;subst h;rfl)
 ·unfold aPick at h;split at h <;>simp at h;subst h;rfl
 ·unfold aBinS at h
  split at h
  ·unfold aBinB at h;split at h
   ·split at h <;>simp at h <;>subst h <;>rfl
   ·simp at h
  ·rw[Zf]at h;obtain⟨_,_,rfl⟩:=h;rfl
  ·unfold aBinA at h;split at h
   ·split at h
    ·split at h <;>simp at h <;>subst h <;>rfl
    ·simp at h
   ·simp at h
  ·simp at h
 ·unfold aUnS at h;split at h
  ·rw[Zf]at h;obtain⟨_,_,rfl⟩:=h;rfl
  ·simp at h
 ·unfold Vf1 at h;split at h
  ·rw[Zf]at h;obtain⟨_,_,rfl⟩:=h;rfl
  ·rw[Zf]at h;obtain⟨_,_,rfl⟩:=h;rfl
  ·simp at h
 ·unfold Vdj at h;split at h <;>simp at h <;>subst h <;>rfl
 ·unfold Viy at h
  repeat' split at h
  all_goals first|(simp at h;done)|(simp only[Za]at h;subst h;rfl)
 ·unfold Vin at h
  repeat' split at h
  all_goals first|(simp at h;done)|(simp only[Za]at h;subst h;rfl)|(rw[Zf]at h;obtain⟨_,_,rfl⟩:=h;rfl)
 ·unfold Vqn at h
  repeat' split at h
  all_goals first|(simp at h;done)|(rw[Zf]at h;obtain⟨_,_,rfl⟩:=h;rfl)
 ·unfold Vbz at h
  repeat' split at h
  all_goals first|(simp at h;done)|(simp only[Za]at h;subst h;rfl)
 ·unfold Vec at h
  repeat' split at h
  all_goals first|(simp at h;done)|(simp only[Za]at h;subst h;rfl)
 ·unfold Vqm at h
  repeat' split at h
  all_goals first|(simp at h;done)|(simp only[Za]at h;subst h;rfl)
 ·unfold Vqj at h
  repeat' split at h
  all_goals first|(simp at h;done)|(simp only[Za]at h;subst h;rfl)
 ·unfold Vdv at h
  split at h
  ·unfold aLen at h
   repeat' split at h
   all_goals first|(simp at h;done)|(simp only[Za]at h;subst h;rfl)
  ·simp[still]at hs
  ·repeat' split at h
   all_goals first|(simp at h;done)|(simp only[Za]at h;subst h;rfl)
  ·repeat' split at h
   all_goals first|(simp at h;done)|(simp only[Za]at h;subst h;rfl)
  ·repeat' split at h
   all_goals first|(simp at h;done)|(simp only[Za]at h;subst h;rfl)
  ·simp[still]at hs
  ·simp at h
 ·unfold Vf0 at h
  repeat' split at h
  all_goals first|(simp at h;done)|(simp only[Za]at h;subst h;rfl)
 ·unfold Vhm at h
  repeat' split at h
  all_goals first|(simp at h;done)|(simp only[Za]at h;subst h;rfl)
theorem upd_nil(S:St):S.upd [] []=S:=by
 obtain⟨fr,bx,gn⟩:=S;simp[St.upd,Vb8]
theorem Vow{P:Program}{o:Oper}{ors ors':List Or}{S S':St}{cs:List Prop}(h:Vh6 P o ors S=some (cs,ors',S'))(hs:still o.op=true)(hq:∀ x∈ors,Vi7 x=true):∃ v,S'=S.put o.dst v:=by
 unfold Vh6 at h
 split at h
 ·split at h
  ·simp only[Za,Zb]at h;exact⟨_,h.2.2.symm⟩
  ·simp at h
 ·split at h
  ·split at h
   ·simp only[Za,Zb]at h;exact⟨_,h.2.2.symm⟩
   ·simp at h
  ·simp only[Za,Zb]at h;exact⟨_,h.2.2.symm⟩
  ·simp at h
 ·split at h
  ·split at h
   ·simp only[Za,Zb]at h;exact⟨_,h.2.2.symm⟩
   ·simp at h
  ·simp at h
 ·split at h
  ·split at h
   ·simp only[Za,Zb]at h;exact⟨_,h.2.2.symm⟩
   ·simp at h
  ·simp at h
 ·split at h
  ·split at h
   ·split at h
    ·simp only[Za,Zb]at h;exact⟨_,h.2.2.symm⟩
    ·simp at h
   ·simp at h
  ·split at h
   ·split at h
    ·simp only[Za,Zb]at h;exact⟨_,h.2.2.symm⟩
    ·simp at h
   ·simp at h
 ·split at h
  ·rename_i f fs cs' res bx' gn gn' ors2 hx
   split at h
   case h_2=>simp at h
   simp only[Za,Zb]at h
   have:=hq (.c res bx' gn gn') ku;unfold Vi7 at this
   split at this
   ·rename_i e;simp only[Or.c.injEq]at e;obtain⟨_,rfl,_,rfl⟩:=e;refine⟨res,?_⟩;rw[<-h.2.2,upd_nil]
   ·simp at this
   ·rename_i e;exact(e _ _ _ _ rfl).elim
  ·simp at h
 ·split at h
  ·rename_i ok v st y ors2 ha;simp only[Za,Zb]at h;refine⟨.av y,?_⟩
   have:=Vex ha hs;simp only at this;rw[<-h.2.2,this]
  ·simp at h
 ·split at h
  ·rename_i r ha;simp only[Za,Zb]at h;refine⟨r.v,?_⟩;rw[<-h.2.2,Vex ha hs]
  ·simp at h
theorem Vk3{P:Program}{o:Oper}{ors ors':List Or}{S S':St}{cs:List Prop}(h:Vg4 P o ors S=some (cs,ors',S'))(hs:still o.op=true)(hq:∀ x∈ors,Vi7 x=true):∃ v,S'=S.put o.dst v:=by
 unfold Vg4 at h
 split at h
 ·simp only[Za,Zb]at h;exact⟨_,h.2.2.symm⟩
 ·exact Vow h hs hq
theorem Vkv{P:Program}{o:Oper}{ors ors':List Oq}{S S':St}{cs:List Prop}(h:exec0 P true o ors S=some (cs,ors',S'))(hs:still o.op=true):∃ v,S'=S.put o.dst v:=by
 unfold exec0 at h
 split at h
 ·rename_i c _ S1 h1;simp only[Za,Zb]at h;obtain⟨_,_,rfl⟩:=h;exact Vk3 h1 hs ku
 ·split at h
  ·rename_i x ors2
   split at h
   ·rename_i c S1 h1 h2;simp only[Za,Zb]at h;obtain⟨_,_,rfl⟩:=h;exact Vk3 h1 hs (by intro y hy;simp at hy;subst hy;simpa using h2)
   ·simp at h
  ·simp at h
theorem put_put(S:St)(d:Option Tmp)(u v:SV):(S.put d u).put d v=S.put d v:=by
 cases d with
 |none=>rfl
 |some d=>simp[St.put]
theorem Vm7{P:Program}{o:Oper}{ors ors':List Oq}{S S':St}{cs:List Prop}(h:exec P true o ors S=some (cs,ors',S'))(hs:still o.op=true):∃ v,S'=S.put o.dst v:=by
 unfold exec at h
 split at h
 ·exact Vkv h hs
 ·split at h
  ·rename_i r h1;obtain⟨c,ors1,S1⟩:=r;obtain⟨v,rfl⟩:=Vkv h1 hs;unfold normW at h;simp only at h
   split at h
   ·simp only[Za,Zb]at h;exact⟨_,by rw[<-h.2.2,put_put]⟩
   ·simp only[Za,Zb]at h;exact⟨_,by rw[<-h.2.2,put_put]⟩
   ·simp only[Za,Zb]at h;exact⟨_,h.2.2.symm⟩
   ·simp only[Za,Zb]at h;exact⟨_,h.2.2.symm⟩
   ·simp only[Za,Zb]at h;exact⟨_,h.2.2.symm⟩
   ·simp at h
  ·simp at h
theorem execL_still{P:Program}{lits:List Nat}{o:Oper}{ors ors':List Oq}{S S':St}{cs:List Prop}(h:Vns P true lits o ors S=some (cs,ors',S'))(hs:still o.op=true):∃ v,S'=S.put o.dst v:=by
 unfold Vns at h
 split at h
 ·split at h
  ·simp only[Za,Zb]at h;exact⟨_,h.2.2.symm⟩
  ·exact Vm7 h hs
 ·exact Vm7 h hs
structure Like (S S':St) (ts:List Nat):Prop where
 bx:S'.bx=S.bx
 gn:S'.gn=S.gn
 len:S'.fr.length=S.fr.length
 fr:∀ t:Nat,t ∉ ts->S'.fr[t]? =S.fr[t]?
theorem Like.refl(S:St)(ts:List Nat):Like S S ts:=⟨rfl,rfl,rfl,λ_ _=>rfl⟩
theorem Like.trans{S S' S'':St}{ts ts' us:List Nat}(h:Like S S' ts)(h':Like S' S'' ts')(h1:∀ t∈ts,t∈us)(h2:∀ t∈ts',t∈us):Like S S'' us:=
 ⟨h'.bx.trans h.bx,h'.gn.trans h.gn,h'.len.trans h.len,λt ht=>(h'.fr t (λq=>ht (h2 t q))).trans (h.fr t (λq=>ht (h1 t q)))⟩
theorem Like.put(S:St)(d:Option Tmp)(v:SV):Like S (S.put d v) d.toList:=by
 cases d with
 |none=>exact Like.refl _ _
 |some d=>exact⟨rfl,rfl,by simp[St.put],λt ht=>by simp at ht;simp[St.put,Zm,Ne.symm ht]⟩
theorem Like.put'{S:St}{d:Option Tmp}{v:SV}{ts:List Nat}(h:∀ t,d=some t->t∈ts):Like S (S.put d v) ts:=
 (Like.put S d v).trans (Like.refl _ []) (by intro t ht;cases d with|none=>simp at ht|some d=>simp at ht;subst ht;exact h _ rfl) ku
theorem Like.junk(S:St):∀(l:List Nat)(S:St),Like S (Vde S l) l
 |[],S=>Like.refl _ _
 |t::l,S=>(Like.put S (some t) .junk).trans (Like.junk S l _) ku (by intro t ht;simp[ht])
theorem Vpx{l:List Oper}{k:Nat}{t:Nat}(h:t∈Vbn (l.take k)):t∈Vbn l:=by
 simp only[Vbn,Zw]at h ⊢;obtain⟨o,h1,h2⟩:=h;exact⟨o,List.mem_of_mem_take h1,h2⟩
theorem dsts_drop{l:List Oper}{k:Nat}{t:Nat}(h:t∈Vbn (l.drop k)):t∈Vbn l:=by
 simp only[Vbn,Zw]at h ⊢;obtain⟨o,h1,h2⟩:=h;exact⟨o,List.mem_of_mem_drop h1,h2⟩
theorem Vkx{l:List Oper}{t:Nat}(h:Vkl l=some t):t∈Vbn l:=by
 unfold Vkl at h
 split at h
 ·rename_i o ho;simp only[Vbn,Zw];exact⟨o,List.mem_of_getLast? ho,h⟩
 ·simp at h
theorem Vpz{o:Oper}{l:List Oper}{t:Nat}(h:t∈Vbn l):t∈Vbn (o::l):=by
 simp only[Vbn,Zw]at h ⊢;obtain⟨o',h1,h2⟩:=h;exact⟨o',List.mem_cons_of_mem _ h1,h2⟩
theorem Vpy{o:Oper}{l:List Oper}{t:Nat}(h:o.dst=some t):t∈Vbn (o::l):=by
 simp only[Vbn,Zw];exact⟨o,by simp,h⟩
theorem Ve7{P:Program}{ds:List (Option Tmp)}:∀(n:Nat)(lits:List Nat)(l:List Oper)(ors ors':List Oq)(S S':St)(cs:List Prop),l.all (λo=>still o.op)=true->runG P ds true n lits l ors S=some (cs,ors',S')->Like S S' (Vbn l)
 |n,lits,[],ors,ors',S,S',cs,_,h=>by
  simp only[runG,Za,Zb]at h;obtain⟨_,_,rfl⟩:=h;exact Like.refl _ _
 |0,lits,_::_,ors,ors',S,S',cs,_,h=>by simp[runG]at h
 | n+1,lits,o::rest,ors,ors',S,S',cs,hs,h=>by
  have hs0:=hs;simp only[List.all_cons,Ze]at hs;obtain⟨hso,hsr⟩:=hs
  have hsd:∀ k,((o::rest).drop k).all (λo=>still o.op)=true:=by
   intro k;rw[Zk]at hs0 ⊢;exact λx hx=>hs0 x (List.mem_of_mem_drop hx)
  have one:∀ {c1 c2:List Prop} {o1 o2 o3:List Oq} {S1 S2:St},Vns P true lits o o1 S=some (c1,o2,S1)->runG P ds true n lits rest o2 S1=some (c2,o3,S2)->Like S S2 (Vbn (o::rest)):=by
   intro c1 c2 o1 o2 o3 S1 S2 h1 h2;obtain⟨v,rfl⟩:=execL_still h1 hso;exact(Like.put' (ts:=Vbn (o::rest)) (λt ht=>Vpy ht)).trans (Ve7 n lits rest _ _ _ _ _ hsr h2) (λ_ h=>h) (λt ht=>Vpz ht)
  have skip:∀ {c2:List Prop} {o2 o3:List Oq} {S2:St},runG P ds true n lits rest o2 (S.put o.dst Vas)=some (c2,o3,S2)->Like S S2 (Vbn (o::rest)):=by
   intro c2 o2 o3 S2 h2;exact(Like.put' (ts:=Vbn (o::rest)) (λt ht=>Vpy ht)).trans (Ve7 n lits rest _ _ _ _ _ hsr h2) (λ_ h=>h) (λt ht=>Vpz ht)
  simp only[runG]at h
  split at h
  ·split at h
   ·rename_i h1
    split at h
    ·rename_i h2;simp only[Za,Zb]at h;obtain⟨_,rfl⟩:=h;exact one h1 h2
    ·simp at h
   ·simp at h
  ·split at h
   ·simp at h
   ·split at h
    ·exact skip h
    ·split at h
     ·split at h
      ·split at h
       ·rename_i h1
        split at h
        ·rename_i h2;simp only[Za,Zb]at h;obtain⟨_,rfl⟩:=h;exact one h1 h2
        ·simp at h
       ·simp at h
      ·exact skip h
     ·split at h
      ·split at h
       ·split at h
        ·rename_i h1
         split at h
         ·rename_i h2;simp only[Za,Zb]at h;obtain⟨_,rfl⟩:=h;exact one h1 h2
         ·simp at h
        ·simp at h
       ·split at h
        ·rename_i h2;simp only[Za,Zb]at h;obtain⟨_,rfl⟩:=h;exact skip h2
        ·simp at h
      ·split at h
       ·split at h
        ·rename_i v hv
         split at h
         ·rename_i h3;simp only[Za,Zb]at h;obtain⟨_,rfl⟩:=h;refine((Like.junk S _ S).trans (Like.put' (ts:=Vbn (o::rest)) (λt ht=>Vpx (Vkx ht))) (us:=Vbn (o::rest)) (λt ht=>Vpx ht) (λ_ h=>h)).trans (Ve7 n lits _ _ _ _ _ _ (hsd _) h3) (λ_ h=>h) (λt ht=>dsts_drop ht)
         ·simp at h
        ·simp at h
       ·simp at h
      ·simp at h
    ·simp at h
end Go.Eng
namespace Go.Eng
section
variable {P:Program}
theorem Vor{G:Gh}{w:World}{S:St}{a:Act}(d:Option Tmp)(h:Rel G w S a):Rel G w (S.put d (Vcd S d)) a:=by
 cases d with
 |none=>exact h
 | some d=>
  refine⟨h.wf,by simp[St.put,h.size],λt s ht=>?_,h.bx,h.gn,h.defers⟩;simp only[St.put,Vcd]at ht;rw[Zm]at ht
  split at ht
  ·rename_i hd;subst hd
   split at ht
   ·rename_i hlt;simp only[Za]at ht;subst ht;refine h.fr d _ ?_;simp[List.getD,hlt]
   ·simp at ht
  ·exact h.fr t s ht
theorem Vcl{md:Bool}{o:Oper}{ors ors':List Oq}{S S':St}{cs:List Prop}(h:exec0 P md o ors S=some (cs,ors',S'))(hc:All cs){G:Gh}{w:World}{a:Act}(hr:Rel G w S a){Q:Exit->Act->World->Prop}{next:Act->World->Prop}
  (hn:∀ G' a' w',Step G w G' w'->Rel G' w' S' a'->(∀i,Fx i->G'.ow (i,0)=G.ow (i,0))->next a' w'):o.wp P a w next Q:=by
 unfold exec0 at h
 split at h
 ·rename_i c _ S1 h1;simp only[Za,Zb]at h;obtain⟨rfl,_,rfl⟩:=h;exact Vbx h1 hc hr hn
 ·split at h
  ·rename_i x ors2
   split at h
   ·rename_i c S1 h1 h2;simp only[Za,Zb]at h;obtain⟨rfl,_,rfl⟩:=h;exact Vbx h1 hc hr hn
   ·simp at h
  ·simp at h
theorem Vm8{md:Bool}{o:Oper}{ors ors':List Oq}{S S':St}{cs:List Prop}(h:exec P md o ors S=some (cs,ors',S'))(hc:All cs){G:Gh}{w:World}{a:Act}(hr:Rel G w S a){Q:Exit->Act->World->Prop}{next:Act->World->Prop}
  (hn:∀ G' a' w',Step G w G' w'->Rel G' w' S' a'->(∀i,Fx i->G'.ow (i,0)=G.ow (i,0))->next a' w'):o.wp P a w next Q:=by
 unfold exec at h
 split at h
 ·exact Vcl h hc hr hn
 ·split at h
  ·rename_i r h1;obtain⟨c,ors1,S1⟩:=r;unfold normW at h;simp only at h
   split at h
   ·rename_i k g sz l0 l ors2 e1;simp only[Za,Zb]at h;obtain⟨rfl,_,rfl⟩:=h;obtain⟨hc1,hc2⟩:=Vb7 hc
    have:=hc2.1;subst this;exact Vcl h1 hc1 hr (λG' a' w' q1 q2 q3=>hn G' a' w' q1 (by have:=Vor o.dst q2;rw[e1]at this;exact this) q3)
   ·rename_i l0 l ors2 e1;simp only[Za,Zb]at h;obtain⟨rfl,_,rfl⟩:=h;obtain⟨hc1,hc2⟩:=Vb7 hc
    have:=hc2.1;subst this;exact Vcl h1 hc1 hr (λG' a' w' q1 q2 q3=>hn G' a' w' q1 (by have:=Vor o.dst q2;rw[e1]at this;exact this) q3)
   ·simp only[Za,Zb]at h;obtain⟨rfl,_,rfl⟩:=h;exact Vcl h1 hc hr hn
   ·simp only[Za,Zb]at h;obtain⟨rfl,_,rfl⟩:=h;exact Vcl h1 hc hr hn
   ·simp only[Za,Zb]at h;obtain⟨rfl,_,rfl⟩:=h;exact Vcl h1 hc hr hn
   ·simp at h
  ·simp at h
theorem execL_sound{md:Bool}{lits:List Nat}{o:Oper}{ors ors':List Oq}{S S':St}{cs:List Prop}(h:Vns P md lits o ors S=some (cs,ors',S'))(hc:All cs){G:Gh}{w:World}{a:Act}(hr:Rel G w S a){Q:Exit->Act->World->Prop}{next:Act->World->Prop}
  (hn:∀ G' a' w',Step G w G' w'->Rel G' w' S' a'->(∀i,Fx i->G'.ow (i,0)=G.ow (i,0))->next a' w'):o.wp P a w next Q:=by
 unfold Vns at h
 split at h
 ·rename_i c x y ho
  split at h
  ·rename_i b hb;simp only[Za,Zb]at h;obtain⟨rfl,_,rfl⟩:=h
   have hev:S.ev c=.av (.val (.bool b)):=by
    unfold litB at hb
    split at hb
    ·split at hb
     ·rename_i e;simp only[Za]at hb;subst hb;exact e
     ·simp at hb
    ·simp at hb
   clear hb;cases b with
   | true=>
    have h1:Vg4 P o [.b true] S=some ([true=true],[],S.put o.dst (S.ev x)):=by
     unfold Vg4 Vbd Vh6;rw[ho];simp only[hev]
    exact Vbx h1 ⟨rfl,trivial⟩ hr hn
   | false=>
    have h1:Vg4 P o [.b false] S=some ([false=false],[],S.put o.dst (S.ev y)):=by
     unfold Vg4 Vbd Vh6;rw[ho];simp only[hev]
    exact Vbx h1 ⟨rfl,trivial⟩ hr hn
  ·exact Vm8 h hc hr hn
 ·exact Vm8 h hc hr hn
theorem Vgx(G:Gh)(w:World):RepS G w Vas undef:=by
 simp only[Vas,RepS,Rep];exact⟨#[],rfl,by simp[RepL]⟩
theorem WO_mono{ops:Array Oper}{l:List Oper}{Q Q2:St->Prop}{S:St}(h:WO P ops l Q S)(hq:∀ S,Q S->Q2 S):WO P ops l Q2 S:=
 λmore Q' G w a hr hc=>h more Q' G w a hr (λS' G' a' w' q1=>hc S' G' a' w' (hq _ q1))
theorem WO_op{ops:Array Oper}{o:Oper}{rest:List Oper}{Q:St->Prop}{S S1:St}(hg:∀ G w a,Rel G w S a->Region.wanted o (yielded ops a.tmps)=true)
  (hx:∀(G:Gh)(w:World)(a:Act),Rel G w S a->∀(Q':Exit->Act->World->Prop)(next:Act->World->Prop),(∀G' a' w',Step G w G' w'->Rel G' w' S1 a'->(∀i,Fx i->G'.ow (i,0)=G.ow (i,0))->next a' w')->o.wp P a w next Q')
  (h:WO P ops rest Q S1):WO P ops (o::rest) Q S:=by
 intro more Q' G w a hr hq;simp only[Zx,wpList];rw[if_pos (hg G w a hr)];refine .inl (hx G w a hr _ _ (λG' a' w' q1 q2 q3=>?_));exact h more Q' G' w' a' q2 (λS' G2 a2 w2 p1 p2 p3 p4=>hq S' G2 a2 w2 p1 (q1.trans p2) p3 (λi hi=>(p4 i hi).trans (q3 i hi)))
theorem WO_pass{ops:Array Oper}{o:Oper}{rest:List Oper}{Q:St->Prop}{S:St}(hg:∀ G w a,Rel G w S a->Region.wanted o (yielded ops a.tmps)=false)
  (h:WO P ops rest Q (S.put o.dst Vas)):WO P ops (o::rest) Q S:=by
 intro more Q' G w a hr hq;simp only[Zx,wpList];rw[hg G w a hr];simp only[Zg,if_false];exact h more Q' G w _ (hr.put o.dst (Vgx G w)) hq
theorem Vao{ops:Array Oper}{o:Oper}(hg:o.guard=none)(a:Act):Region.wanted o (yielded ops a.tmps)=true:=by simp[Region.wanted,hg]
theorem Voe{ops:Array Oper}{o:Oper}{S:St}{j:Nat}{want:Bool}{t:Nat}(hg:o.guard=some (j,want))(ht:((ops.toList.map (·.dst))[j]?).join=some t)(hs:S.fr[t]? =some (.av (.tup []))){G:Gh}{w:World}{a:Act}(hr:Rel G w S a):Region.wanted o (yielded ops a.tmps)=false:=by
 obtain⟨t',u,e1,e2,e3⟩:=Vbm (S:=S) (j:=j) (s:=.av (.tup [])) (by unfold Vdg;rw[ht];exact hs) hr;simp only[RepS,Rep]at e3;obtain⟨us,rfl,_⟩:=e3;simp only[Region.wanted,hg,yielded,e1,Zn,e2];rfl
theorem Vef{ops:Array Oper}{o:Oper}{S:St}{j:Nat}{want b:Bool}{t:Nat}(hg:o.guard=some (j,want))(ht:((ops.toList.map (·.dst))[j]?).join=some t)(hs:S.fr[t]? =some (.av (.val (.bool b)))){G:Gh}{w:World}{a:Act}(hr:Rel G w S a):Region.wanted o (yielded ops a.tmps)=(b==want):=by
 obtain⟨t',u,e1,e2,e3⟩:=Vbm (S:=S) (j:=j) (s:=.av (.val (.bool b))) (by unfold Vdg;rw[ht];exact hs) hr;simp only[RepS,Rep]at e3;obtain⟨rfl,_⟩:=e3;simp only[Region.wanted,hg,yielded,e1,Zn,e2];cases b <;>cases want <;>rfl
theorem Vgv{S S1:St}{ts:List Nat}(h:Like S S1 ts)(d:Option Tmp)(hd:∀ t,d=some t->t∈ts):Weak S1 ((Vde S ts).put d (Vcd S1 d)):=by
 have hj:∀(ts:List Nat)(S:St)(t:Nat),t∈ts->(Vde S ts).fr[t]? =some .junk\/(Vde S ts).fr[t]? =none:=by
  intro ts
  induction ts with
  |nil=>intro S t ht;simp at ht
  | cons u ts ih=>
   intro S t ht
   by_cases hm:t∈ts
   ·exact ih _ t hm
   ·simp only[Zp]at ht;rcases ht with rfl|ht
    ·have hl:=(Like.junk S ts (S.put (some t) .junk)).fr t hm
     show(Vde (S.put (some t) .junk) ts).fr[t]? =some .junk\/(Vde (S.put (some t) .junk) ts).fr[t]? =none;rw[hl];simp only[St.put,Zm,if_true]
     split
     ·exact .inl rfl
     ·exact .inr rfl
    ·exact(hm ht).elim
 have hl:=Like.junk S ts S;intro G w a hr
 have key:∀ t s,(Vde S ts).fr[t]? =some s->RepS G w s (a.tmps.getD t undef):=by
  intro t s hs
  by_cases hm:t∈ts
  ·rcases hj ts S t hm with h1|h1
   ·rw[h1]at hs;simp only[Za]at hs;subst hs;trivial
   ·rw[h1]at hs;simp at hs
  ·rw[hl.fr t hm, <-h.fr t hm]at hs;exact hr.fr t s hs
 have hlen:(Vde S ts).fr.length=S1.fr.length:=by rw[hl.len,h.len]
 have hbase:Rel G w (Vde S ts) a:=by
  refine⟨hr.wf,by rw[hlen];exact hr.size,key,?_,?_,hr.defers⟩
  ·rw[hl.bx, <-h.bx];exact hr.bx
  ·intro k;rw[hr.gn k];simp only[St.gen];rw[hl.gn, <-h.gn]
 cases d with
 |none=>exact hbase
 | some d=>
  refine⟨hr.wf,by simp only[St.put,Z1];exact hbase.size,λt s ht=>?_,hbase.bx,hbase.gn,hbase.defers⟩;simp only[St.put,Vcd]at ht;rw[Zm]at ht
  split at ht
  ·rename_i hdt;subst hdt
   split at ht
   ·rename_i hlt;simp only[Za]at ht;subst ht;refine hr.fr d _ ?_
    have:d<S1.fr.length:=by rw[<-hlen];exact hlt
    simp[List.getD,this]
   ·simp at ht
  ·exact key t s ht
theorem mrg_true{x y v:SV}(h:mrg true x y=some v):v=x:=by
 unfold mrg at h
 split at h
 ·simp at h;exact h.symm
 ·split at h
  ·simp at h;exact h.symm
  ·simp at h
 ·simp at h;exact h.symm
 ·simp at h;exact h.symm
 ·simp at h
theorem Vpe{x y v:SV}(h:mrg false x y=some v):v=y:=by
 unfold mrg at h
 split at h
 ·simp at h;exact h.symm
 ·split at h
  ·rename_i hk;subst hk;simp at h;exact h.symm
  ·simp at h
 ·simp at h;exact h.symm
 ·simp at h;exact h.symm
 ·simp at h
theorem put_same{S:St}{t:Nat}{v:SV}(h:S.fr[t]? =some v):S.put (some t) v=S:=by
 obtain⟨fr,bx,gn⟩:=S;simp only[St.put]at h ⊢;congr 1;apply List.ext_getElem?;intro i;rw[Zm]
 split
 ·rename_i hi;subst hi
  split
  ·exact h.symm
  ·rename_i hn;rw[Zh kv]
 ·rfl
theorem Vc1{ops:Array Oper}:∀(md:Bool)(n:Nat)(lits:List Nat)(l:List Oper)(ors ors':List Oq)(S S':St)(cs:List Prop),runG P (ops.toList.map (·.dst)) md n lits l ors S=some (cs,ors',S')->All cs->WO P ops l (λS1=>S1=S') S
 |md,n,lits,[],ors,ors',S,S',cs,h,hc=>by
  simp only[runG,Za,Zb]at h;obtain⟨_,_,rfl⟩:=h;exact Vbk rfl rfl
 |md,0,lits,_::_,ors,ors',S,S',cs,h,hc=>by simp[runG]at h
 | md,n+1,lits,o::rest,ors,ors',S,S',cs,h,hc=>by
  have one:∀ {c1 c2:List Prop} {o1 o2 o3:List Oq} {S1 S2:St},(∀G w a,Rel G w S a->Region.wanted o (yielded ops a.tmps)=true)->Vns P md lits o o1 S=some (c1,o2,S1)->runG P (ops.toList.map (·.dst)) md n lits rest o2 S1=some (c2,o3,S2)->All (c1++c2)->WO P ops (o::rest) (λS=>S=S2) S:=by
   intro c1 c2 o1 o2 o3 S1 S2 hw h1 h2 hc';obtain⟨hc1,hc2⟩:=Vb7 hc';exact WO_op hw (λG w a hr Q' next hn=>execL_sound h1 hc1 hr hn) (Vc1 md n lits rest _ _ _ _ _ h2 hc2)
  simp only[runG]at h
  split at h
  ·rename_i hg
   split at h
   ·rename_i h1
    split at h
    ·rename_i h2;simp only[Za,Zb]at h;obtain⟨rfl,rfl⟩:=h;exact one (λG w a _=>Vao hg a) h1 h2 hc
    ·simp at h
   ·simp at h
  ·rename_i j want hg
   split at h
   ·simp at h
   ·rename_i t ht
    split at h
    ·rename_i hs;exact WO_pass (λG w a hr=>Voe hg ht hs hr) (Vc1 md n lits rest _ _ _ _ _ h hc)
    ·rename_i b hs
     split at h
     ·split at h
      ·rename_i hb
       have hbw:b=want:=by cases b <;>cases want <;>simp_all
       split at h
       ·rename_i h1
        split at h
        ·rename_i h2;simp only[Za,Zb]at h;obtain⟨rfl,rfl⟩:=h;exact one (λG w a hr=>by rw[Vef hg ht hs hr];simp[hbw]) h1 h2 hc
        ·simp at h
       ·simp at h
      ·rename_i hb;exact WO_pass (λG w a hr=>by rw[Vef hg ht hs hr];cases b <;>cases want <;>simp_all) (Vc1 md n lits rest _ _ _ _ _ h hc)
     ·split at h
      ·rename_i d ors2
       split at h
       ·rename_i hd
        split at h
        ·rename_i h1
         split at h
         ·rename_i h2;simp only[Za,Zb]at h;obtain⟨rfl,rfl⟩:=h;obtain⟨hb,hc'⟩:=hc;exact one (λG w a hr=>by rw[Vef hg ht hs hr];simp[hb,hd]) h1 h2 hc'
         ·simp at h
        ·simp at h
       ·rename_i hd
        split at h
        ·rename_i h2;simp only[Za,Zb]at h;obtain⟨rfl,rfl⟩:=h;obtain⟨hb,hc'⟩:=hc;exact WO_pass (λG w a hr=>by rw[Vef hg ht hs hr];subst hb;simp[hd]) (Vc1 md n lits rest _ _ _ _ _ h2 hc')
        ·simp at h
      ·rename_i o1 o2 ors2
       split at h
       ·rename_i c1 S1 c2 S2 hst h1 h2
        split at h
        ·rename_i v hv
         split at h
         ·rename_i h3;simp only[Za,Zb]at h;obtain⟨rfl,rfl⟩:=h;obtain⟨hq1,hq2,hc3⟩:=hc;refine Vo7 (Vfe t (o::rest)) ?_ (Vc1 md n lits _ _ _ _ _ _ h3 hc3);cases b with
          |true=>
           rw[put_same hs]at h1;refine WO_mono (Vc1 true n _ _ _ _ _ _ _ h1 (hq1 rfl)) (λS3 e=>?_);subst e;rw[mrg_true hv];exact Vgv (Ve7 n _ _ _ _ _ _ _ hst h1) _ (λt ht=>Vkx ht)
          |false=>
           rw[put_same hs]at h2;refine WO_mono (Vc1 true n _ _ _ _ _ _ _ h2 (hq2 rfl)) (λS3 e=>?_);subst e;rw[Vpe hv];exact Vgv (Ve7 n _ _ _ _ _ _ _ hst h2) _ (λt ht=>Vkx ht)
         ·simp at h
        ·simp at h
       ·simp at h
      ·simp at h
    ·simp at h
end
end Go.Eng
namespace Go.Eng
inductive Fm where
 |sq (d:Code)
 |bk (id:Nat)
 |sc
inductive Out where
 |fin (e:Exit) (S:St)
 |at (c:Code) (ks:List Fm) (S:St)
abbrev Cf:=Option (List Prop×List Oq×Out)
def Vf5:Code->Bool
 | .skip=>true
 | .label _=>true
 | .exit _=>true
 | .region _ ops false=>ops.toList.all (λo=>still o.op)
 | .seq x y=>Vf5 x&&Vf5 y
 | .cond _ x y=>Vf5 x&&Vf5 y
 | .block _ c=>Vf5 c
 |_=>false
def Vf6:Code->List Nat
 | .region _ ops _=>Vbn ops.toList
 | .seq x y=>Vf6 x++Vf6 y
 | .cond _ x y=>Vf6 x++Vf6 y
 | .block _ c=>Vf6 c
 |_=>[]
def putM(b:Bool)(S1 S2:St):List Nat->St->Option St
 |[],S=>some S
 |t::ts,S=>match mrg b (Vcd S1 (some t)) (Vcd S2 (some t))with
  |some v=>putM b S1 S2 ts (S.put (some t) v)
  |none=>none
def subL(ts us:List Nat):Bool:=ts.all (λt=>us.contains t)
def pauseAt(i:Nat):List Oq->Option (List Oq)
 | .p k::ors=>match decide (k=i)with
  |true=>some ors
  |false=>none
 |_=>none
def go(P:Program):Bool->Code->List Oq->St->Cf
 |md,.skip,ors,S=>some ([],ors,.fin .normal S)
 |md,.label _,ors,S=>some ([],ors,.fin .normal S)
 |md,.exit id,ors,S=>some ([],ors,.fin (.exit id) S)
 |md,.ret,ors,S=>some ([],ors,.fin .ret S)
 |md,.region i ops true,ors,S=>some ([],ors,.at (.region i ops true) [] S)
 | md,.region i ops false,ors,S=>match pauseAt i ors with
  |some ors=>some ([],ors,.at (.region i ops false) [] S)
  |none=>match runG P (ops.toList.map (·.dst)) md (ops.size+40) [] ops.toList ors S with
   |some (c,ors,S)=>some (c,ors,.fin .normal S)
   |none=>none
 | md,.seq x y,ors,S=>match go P md x ors S with
  |some (c1,ors1,.fin .normal S1)=>match go P md y ors1 S1 with
   |some (c2,r)=>some (c1++c2,r)
   |none=>none
  |some (c1,ors1,.at c ks S1)=>some (c1,ors1,.at c (ks++[.sq y]) S1)
  |r=>r
 | md,.cond c x y,ors,S=>match S.ev c with
  | .av (.val (.bool b))=>match ors with
   | .o (.b d)::ors=>match(match d with|true=>go P md x ors S|false=>go P md y ors S)with
    |some (c2,r)=>some ((b=d)::c2,r)
    |none=>none
   | .s ts o1 o2::ors=>match Vf5 x&&Vf5 y&&subL ts (Vf6 x++Vf6 y),go P true x o1 S,go P true y o2 S with
    |true,some (c1,[],.fin .normal S1),some (c2,[],.fin .normal S2)=>match putM b S1 S2 ts (Vde S (Vf6 x++Vf6 y))with
     |some S3=>some ([(b=true->All c1),(b=false->All c2)],ors,.fin .normal S3)
     |none=>none
    |_,_,_=>none
   |[]=>some ([],[],.at (.cond c x y) [] S)
   |_=>none
  |_=>none
 | md,.block id c,ors,S=>match go P md c ors S with
  |some (c1,ors1,.fin (.exit id') S1)=>match decide (id'=id)with
   |true=>some (c1,ors1,.fin .normal S1)
   |false=>some (c1,ors1,.fin (.exit id') S1)
  |some (c1,ors1,.at c ks S1)=>some (c1,ors1,.at c (ks++[.bk id]) S1)
  |r=>r
 |md,.loop c,ors,S=>some ([],ors,.at (.loop c) [] S)
 |md,.scope c,ors,S=>match go P md c ors S with
  |some (_,_,.fin (.goto _) _)=>none
  |some (c1,ors1,.at c ks S1)=>some (c1,ors1,.at c (ks++[.sc]) S1)
  |r=>r
 |_,_,_,_=>none
def goK(P:Program):List Fm->Cf->Cf
 |_,none=>none
 |[],r=>r
 | .sq d::ks,some (cs,ors,.fin .normal S)=>match go P false d ors S with
  |some (c2,ors2,out)=>goK P ks (some (cs++c2,ors2,out))
  |none=>none
 | .sq _::ks,some (cs,ors,.fin e S)=>goK P ks (some (cs,ors,.fin e S))
 | .bk id::ks,some (cs,ors,.fin (.exit id') S)=>match decide (id'=id)with
  |true=>goK P ks (some (cs,ors,.fin .normal S))
  |false=>goK P ks (some (cs,ors,.fin (.exit id') S))
 | .bk _::ks,some (cs,ors,.fin e S)=>goK P ks (some (cs,ors,.fin e S))
 | .sc::_,some (_,_,.fin (.goto _) _)=>none
 | .sc::ks,some (cs,ors,.fin e S)=>goK P ks (some (cs,ors,.fin e S))
 |k::ks,some (cs,ors,.at c k2 S)=>some (cs,ors,.at c (k2++(k::ks)) S)
def adv(P:Program)(X:Cf)(ors:List Oq):Cf:=match X with
 |some (_,_,.at c ks S)=>goK P ks (go P false c ors S)
 |_=>none
section
variable {P:Program}
def scopeS(Q:Exit->St->Prop):Exit->St->Prop
 | .goto _,_=>False
 |e,S=>Q e S
theorem W_scope{c:Code}{Q:Exit->St->Prop}{S:St}(h:W P c (scopeS Q) S):W P (.scope c) Q S:=by
 intro G w a hr;refine wp_scope_straight (Code.wp_mono (λe a' w' hl=>?_) (h G w a hr));obtain⟨S',G',h1,h2⟩:=hl;cases e with
 |goto l=>exact h1.elim
 |normal=>exact⟨S',G',h1,h2⟩
 |exit id=>exact⟨S',G',h1,h2⟩
 |ret=>exact⟨S',G',h1,h2⟩
 |panic c=>exact⟨S',G',h1,h2⟩
 |outgrown=>exact⟨S',G',h1,h2⟩
theorem scopeS_of{Q:Exit->St->Prop}{e:Exit}{S:St}(h:Q e S)(hn:∀ l,e≠ .goto l):scopeS Q e S:=by
 cases e with
 |goto l=>exact(hn l rfl).elim
 |_=>exact h
def Kont(P:Program)(Q:Exit->St->Prop):List Fm->Exit->St->Prop
 |[]=>Q
 | .sq d::ks=>Voi (W P d (Kont P Q ks)) (Kont P Q ks)
 | .bk id::ks=>Vgd id (Kont P Q ks)
 | .sc::ks=>scopeS (Kont P Q ks)
def Okay(P:Program)(Q:Exit->St->Prop):Out->Prop
 | .fin e S=>Q e S
 | .at c ks S=>W P c (Kont P Q ks) S
theorem Vbf(Q:Exit->St->Prop)(k2:List Fm):∀ ks:List Fm,Kont P Q (ks++k2)=Kont P (Kont P Q k2) ks
 |[]=>rfl
 | .sq d::ks=>by simp only[Zx,Kont,Vbf Q k2 ks]
 | .bk id::ks=>by simp only[Zx,Kont,Vbf Q k2 ks]
 | .sc::ks=>by simp only[Zx,Kont,Vbf Q k2 ks]
theorem Vod{S1 S0:St}(h:Weak S1 S0)(hl:S0.fr.length=S1.fr.length)(t:Nat):Weak S1 (S0.put (some t) (Vcd S1 (some t))):=by
 intro G w a hr
 have h0:=h G w a hr;refine⟨h0.wf,by simp only[St.put,Z1];exact h0.size,λu s hu=>?_,h0.bx,h0.gn,h0.defers⟩;simp only[St.put,Vcd]at hu;rw[Zm]at hu
 split at hu
 ·rename_i hd;subst hd
  split at hu
  ·rename_i hlt;simp only[Za]at hu;subst hu;refine hr.fr t _ ?_
   have:t<S1.fr.length:=by rw[<-hl];exact hlt
   simp[List.getD,this]
  ·simp at hu
 ·exact h0.fr u s hu
theorem Vp2{S1 S2:St}:∀(ts:List Nat)(S0 S3:St),S0.fr.length=S1.fr.length->Weak S1 S0->putM true S1 S2 ts S0=some S3->Weak S1 S3
 |[],S0,S3,_,h,e=>by simp only[putM,Za]at e;subst e;exact h
 | t::ts,S0,S3,hl,h,e=>by
  simp only[putM]at e
  split at e
  ·rename_i v hv
   have:=mrg_true hv;subst this;exact Vp2 ts _ _ (by simp only[St.put,Z1];exact hl) (Vod h hl t) e
  ·simp at e
theorem Vm1{S1 S2:St}:∀(ts:List Nat)(S0 S3:St),S0.fr.length=S2.fr.length->Weak S2 S0->putM false S1 S2 ts S0=some S3->Weak S2 S3
 |[],S0,S3,_,h,e=>by simp only[putM,Za]at e;subst e;exact h
 | t::ts,S0,S3,hl,h,e=>by
  simp only[putM]at e
  split at e
  ·rename_i v hv
   have:=Vpe hv;subst this;exact Vm1 ts _ _ (by simp only[St.put,Z1];exact hl) (Vod h hl t) e
  ·simp at e
theorem Vp3{b:Bool}{S1 S2:St}:∀(ts:List Nat)(S0 S3:St),putM b S1 S2 ts S0=some S3->Like S0 S3 ts
 |[],S0,S3,e=>by simp only[putM,Za]at e;subst e;exact Like.refl _ _
 |t::ts,S0,S3,e=>by
  simp only[putM]at e
  split at e
  ·rename_i v hv;exact(Like.put S0 (some t) v).trans (Vp3 ts _ _ e) ku (by intro u hu;simp[hu])
  ·simp at e
theorem go_like:∀(c:Code)(ors ors':List Oq)(S S':St)(e:Exit)(cs:List Prop),Vf5 c=true->go P true c ors S=some (cs,ors',.fin e S')->Like S S' (Vf6 c):=by
 intro c
 induction c with
 |skip=>intro ors ors' S S' e cs hs h;simp only[go,Za,Zb,Out.fin.injEq]at h;rw[<-h.2.2.2];exact Like.refl _ _
 |label l=>intro ors ors' S S' e cs hs h;simp only[go,Za,Zb,Out.fin.injEq]at h;rw[<-h.2.2.2];exact Like.refl _ _
 |exit id=>intro ors ors' S S' e cs hs h;simp only[go,Za,Zb,Out.fin.injEq]at h;rw[<-h.2.2.2];exact Like.refl _ _
 | region i ops d=>
  intro ors ors' S S' e cs hs h;cases d with
  |true=>simp[Vf5]at hs
  | false=>
   simp only[go]at h
   split at h
   ·simp at h
   ·split at h
    ·rename_i c1 o1 S1 h1;simp only[Za,Zb,Out.fin.injEq]at h;rw[<-h.2.2.2];exact Ve7 _ _ _ _ _ _ _ _ hs h1
    ·simp at h
 | seq x y ihx ihy=>
  intro ors ors' S S' e cs hs h;simp only[Vf5,Ze]at hs;simp only[go]at h
  split at h
  ·rename_i c1 o1 S1 h1
   split at h
   ·rename_i c2 r h2;simp only[Za,Zb]at h;obtain⟨_,rfl⟩:=h;exact(ihx _ _ _ _ _ _ hs.1 h1).trans (ihy _ _ _ _ _ _ hs.2 h2) (by intro t ht;simp[Vf6,ht]) (by intro t ht;simp[Vf6,ht])
   ·simp at h
  ·simp at h
  ·rename_i r _ _;exact(ihx _ _ _ _ _ _ hs.1 h).trans (Like.refl _ []) (by intro t ht;simp[Vf6,ht]) ku
 | cond c x y ihx ihy=>
  intro ors ors' S S' e cs hs h;simp only[Vf5,Ze]at hs;simp only[go]at h
  split at h
  ·split at h
   ·rename_i d ors2
    split at h
    ·rename_i c2 r h2;simp only[Za,Zb]at h;obtain⟨_,rfl⟩:=h;cases d with
     |true=>exact(ihx _ _ _ _ _ _ hs.1 h2).trans (Like.refl _ []) (by intro t ht;simp[Vf6,ht]) ku
     |false=>exact(ihy _ _ _ _ _ _ hs.2 h2).trans (Like.refl _ []) (by intro t ht;simp[Vf6,ht]) ku
    ·simp at h
   ·rename_i ts o1 o2 ors2
    split at h
    ·rename_i c1 S1 c2 S2 hst h1 h2;simp only[Ze]at hst
     split at h
     ·rename_i S3 h3;simp only[Za,Zb,Out.fin.injEq]at h;rw[<-h.2.2.2];refine(Like.junk S _ S).trans (Vp3 _ _ _ h3) (λt ht=>ht) (λt ht=>?_)
      have:=hst.2;simp only[subL,Zk]at this
      have:=this t ht;simpa[Vf6]using this
     ·simp at h
    ·simp at h
   ·simp at h
   ·simp at h
  ·simp at h
 | block id c ih=>
  intro ors ors' S S' e cs hs h;simp only[go]at h
  split at h
  ·rename_i c1 o1 id' S1 h1
   split at h
   ·simp only[Za,Zb,Out.fin.injEq]at h;rw[<-h.2.2.2];exact ih _ _ _ _ _ _ hs h1
   ·simp only[Za,Zb,Out.fin.injEq]at h;rw[<-h.2.2.2];exact ih _ _ _ _ _ _ hs h1
  ·simp at h
  ·exact ih _ _ _ _ _ _ hs h
 |_=>intro ors ors' S S' e cs hs h;simp[Vf5]at hs
theorem go_sound:∀(c:Code)(md:Bool)(ors ors':List Oq)(S:St)(out:Out)(cs:List Prop),go P md c ors S=some (cs,ors',out)->All cs->∀ Q:Exit->St->Prop,Okay P Q out->W P c Q S:=by
 intro c
 induction c with
 |skip=>intro md ors ors' S out cs h hc Q hq;simp only[go,Za,Zb]at h;rw[<-h.2.2]at hq;exact W_skip hq
 |label l=>intro md ors ors' S out cs h hc Q hq;simp only[go,Za,Zb]at h;rw[<-h.2.2]at hq;exact W_label hq
 |exit id=>intro md ors ors' S out cs h hc Q hq;simp only[go,Za,Zb]at h;rw[<-h.2.2]at hq;exact W_exit hq
 |ret=>intro md ors ors' S out cs h hc Q hq;simp only[go,Za,Zb]at h;rw[<-h.2.2]at hq;exact W_ret hq
 | region i ops d=>
  intro md ors ors' S out cs h hc Q hq;cases d with
  |true=>simp only[go,Za,Zb]at h;rw[<-h.2.2]at hq;exact hq
  | false=>
   simp only[go]at h
   split at h
   ·simp only[Za,Zb]at h;rw[<-h.2.2]at hq;exact hq
   ·split at h
    ·rename_i c1 o1 S1 h1;simp only[Za,Zb]at h;obtain⟨rfl,_,rfl⟩:=h;exact Van (WO_mono (Vc1 _ _ _ _ _ _ _ _ _ h1 hc) (λS2 e=>by subst e;exact hq))
    ·simp at h
 | seq x y ihx ihy=>
  intro md ors ors' S out cs h hc Q hq;simp only[go]at h
  split at h
  ·rename_i c1 o1 S1 h1
   split at h
   ·rename_i c2 r h2;simp only[Za,Zb]at h;obtain⟨rfl,rfl⟩:=h;obtain⟨hc1,hc2⟩:=Vb7 hc;exact Vo5 (ihx _ _ _ _ _ _ h1 hc1 _ (show Voi (W P y Q) Q .normal S1 from ihy _ _ _ _ _ _ h2 hc2 _ hq))
   ·simp at h
  ·rename_i c1 o1 c' ks S1 h1;simp only[Za,Zb]at h;obtain⟨rfl,rfl,rfl⟩:=h;refine Vo5 (ihx _ _ _ _ _ _ h1 hc _ ?_);simp only[Okay,Vbf]at hq ⊢;exact hq
  ·rename_i hne1 hne2;refine Vo5 (ihx _ _ _ _ _ _ h hc _ ?_);cases out with
   |fin e S1=>exact skipS hq (by rintro rfl;exact hne1 _ _ _ h)
   | «at» c' ks S1=>exact(hne2 _ _ _ _ _ h).elim
 | cond c x y ihx ihy=>
  intro md ors ors' S out cs h hc Q hq;simp only[go]at h
  split at h
  ·rename_i b hb
   split at h
   ·rename_i d ors2
    split at h
    ·rename_i c2 r h2;simp only[Za,Zb]at h;obtain⟨rfl,rfl⟩:=h;obtain⟨rfl,hc2⟩:=hc;refine W_cond hb ?_;cases b with
     |true=>exact ihx _ _ _ _ _ _ h2 hc2 _ hq
     |false=>exact ihy _ _ _ _ _ _ h2 hc2 _ hq
    ·simp at h
   ·rename_i ts o1 o2 ors2
    split at h
    ·rename_i c1 S1 c2 S2 hst h1 h2;simp only[Ze]at hst
     split at h
     ·rename_i S3 h3;simp only[Za,Zb]at h;obtain⟨rfl,_,rfl⟩:=h;obtain⟨hq1,hq2,_⟩:=hc;refine W_cond hb ?_
      have l1:=go_like _ _ _ _ _ _ _ hst.1.1 h1
      have l2:=go_like _ _ _ _ _ _ _ hst.1.2 h2
      have lj:=Like.junk S (Vf6 x++Vf6 y) S;cases b with
      |true=>
       refine W_end (ihx _ _ _ _ _ _ h1 (hq1 rfl) _ ⟨S3,Vp2 _ _ _ (by rw[lj.len,l1.len]) ?_ h3,hq⟩);exact Vgv (l1.trans (Like.refl _ []) (by intro t ht;simp[ht]) ku) none ku
      |false=>
       refine W_end (ihy _ _ _ _ _ _ h2 (hq2 rfl) _ ⟨S3,Vm1 _ _ _ (by rw[lj.len,l2.len]) ?_ h3,hq⟩);exact Vgv (l2.trans (Like.refl _ []) (by intro t ht;simp[ht]) ku) none ku
     ·simp at h
    ·simp at h
   ·simp only[Za,Zb]at h;rw[<-h.2.2]at hq;exact hq
   ·simp at h
  ·simp at h
 | block id c ih=>
  intro md ors ors' S out cs h hc Q hq;simp only[go]at h
  split at h
  ·rename_i c1 o1 id' S1 h1
   split at h
   ·rename_i hid;simp only[Za,Zb]at h;obtain⟨rfl,_,rfl⟩:=h
    have:=of_decide_eq_true hid;subst this;exact Vo6 (ih _ _ _ _ _ _ h1 hc _ (hit hq))
   ·rename_i hid;simp only[Za,Zb]at h;obtain⟨rfl,_,rfl⟩:=h;exact Vo6 (ih _ _ _ _ _ _ h1 hc _ (miss (of_decide_eq_false hid) hq))
  ·rename_i c1 o1 c' ks S1 h1;simp only[Za,Zb]at h;obtain⟨rfl,rfl,rfl⟩:=h;refine Vo6 (ih _ _ _ _ _ _ h1 hc _ ?_);simp only[Okay,Vbf]at hq ⊢;exact hq
  ·rename_i hne1 hne2;refine Vo6 (ih _ _ _ _ _ _ h hc _ ?_);cases out with
   |fin e S1=>exact pass hq (by rintro i rfl;exact hne1 _ _ _ _ h)
   | «at» c' ks S1=>exact(hne2 _ _ _ _ _ h).elim
 |loop c ih=>
  intro md ors ors' S out cs h hc Q hq;simp only[go,Za,Zb]at h;rw[<-h.2.2]at hq;exact hq
 | scope c ih=>
  intro md ors ors' S out cs h hc Q hq;simp only[go]at h
  split at h
  ·simp at h
  ·rename_i c1 o1 c' ks S1 h1;simp only[Za,Zb]at h;obtain⟨rfl,rfl,rfl⟩:=h;refine W_scope (ih _ _ _ _ _ _ h1 hc _ ?_);simp only[Okay,Vbf]at hq ⊢;exact hq
  ·rename_i hne1 hne2;refine W_scope (ih _ _ _ _ _ _ h hc _ ?_);cases out with
   |fin e S1=>exact scopeS_of hq (by rintro l rfl;exact hne1 _ _ _ _ h)
   | «at» c' ks S1=>exact(hne2 _ _ _ _ _ h).elim
 |_=>intro md ors ors' S out cs h hc Q hq;simp[go]at h
theorem Vaq(Q:Exit->St->Prop):∀(ks:List Fm)(c0:List Prop)(o0:List Oq)(out0:Out)(cs:List Prop)(ors':List Oq)(out:Out),goK P ks (some (c0,o0,out0))=some (cs,ors',out)->All cs->Okay P Q out->All c0/\Okay P (Kont P Q ks) out0
 |[],c0,o0,out0,cs,ors',out,h,hc,hq=>by
  simp only[goK,Za,Zb]at h;obtain⟨rfl,_,rfl⟩:=h;exact⟨hc,hq⟩
 | .sq d::ks,c0,o0,.fin .normal S,cs,ors',out,h,hc,hq=>by
  simp only[goK]at h
  split at h
  ·rename_i c2 ors2 out2 h2;obtain⟨q1,q2⟩:=Vaq Q ks _ _ _ _ _ _ h hc hq;obtain⟨hc1,hc2⟩:=Vb7 q1;exact⟨hc1,go_sound _ _ _ _ _ _ _ h2 hc2 _ q2⟩
  ·simp at h
 | .sq d::ks,c0,o0,.fin (.exit i) S,cs,ors',out,h,hc,hq=>Vaq Q ks c0 o0 (.fin (.exit i) S) _ _ _ h hc hq
 | .sq d::ks,c0,o0,.fin (.goto i) S,cs,ors',out,h,hc,hq=>Vaq Q ks c0 o0 (.fin (.goto i) S) _ _ _ h hc hq
 | .sq d::ks,c0,o0,.fin .ret S,cs,ors',out,h,hc,hq=>Vaq Q ks c0 o0 (.fin .ret S) _ _ _ h hc hq
 | .sq d::ks,c0,o0,.fin (.panic i) S,cs,ors',out,h,hc,hq=>Vaq Q ks c0 o0 (.fin (.panic i) S) _ _ _ h hc hq
 | .sq d::ks,c0,o0,.fin .outgrown S,cs,ors',out,h,hc,hq=>Vaq Q ks c0 o0 (.fin .outgrown S) _ _ _ h hc hq
 | .bk id::ks,c0,o0,.fin (.exit id') S,cs,ors',out,h,hc,hq=>by
  simp only[goK]at h
  split at h
  ·rename_i hid
   have:=of_decide_eq_true hid;subst this;obtain⟨q1,q2⟩:=Vaq Q ks _ _ _ _ _ _ h hc hq;exact⟨q1,hit q2⟩
  ·rename_i hid;obtain⟨q1,q2⟩:=Vaq Q ks _ _ _ _ _ _ h hc hq;exact⟨q1,miss (of_decide_eq_false hid) q2⟩
 | .sc::ks,c0,o0,.fin (.goto i) S,cs,ors',out,h,hc,hq=>by simp[goK]at h
 | .sc::ks,c0,o0,.fin .normal S,cs,ors',out,h,hc,hq=>Vaq Q ks c0 o0 (.fin .normal S) _ _ _ h hc hq
 | .sc::ks,c0,o0,.fin (.exit i) S,cs,ors',out,h,hc,hq=>Vaq Q ks c0 o0 (.fin (.exit i) S) _ _ _ h hc hq
 | .sc::ks,c0,o0,.fin .ret S,cs,ors',out,h,hc,hq=>Vaq Q ks c0 o0 (.fin .ret S) _ _ _ h hc hq
 | .sc::ks,c0,o0,.fin (.panic i) S,cs,ors',out,h,hc,hq=>Vaq Q ks c0 o0 (.fin (.panic i) S) _ _ _ h hc hq
 | .sc::ks,c0,o0,.fin .outgrown S,cs,ors',out,h,hc,hq=>Vaq Q ks c0 o0 (.fin .outgrown S) _ _ _ h hc hq
 | .bk id::ks,c0,o0,.fin .normal S,cs,ors',out,h,hc,hq=>Vaq Q ks c0 o0 (.fin .normal S) _ _ _ h hc hq
 | .bk id::ks,c0,o0,.fin (.goto i) S,cs,ors',out,h,hc,hq=>Vaq Q ks c0 o0 (.fin (.goto i) S) _ _ _ h hc hq
 | .bk id::ks,c0,o0,.fin .ret S,cs,ors',out,h,hc,hq=>Vaq Q ks c0 o0 (.fin .ret S) _ _ _ h hc hq
 | .bk id::ks,c0,o0,.fin (.panic i) S,cs,ors',out,h,hc,hq=>Vaq Q ks c0 o0 (.fin (.panic i) S) _ _ _ h hc hq
 | .bk id::ks,c0,o0,.fin .outgrown S,cs,ors',out,h,hc,hq=>Vaq Q ks c0 o0 (.fin .outgrown S) _ _ _ h hc hq
 | .sq d::ks,c0,o0,.at c k2 S,cs,ors',out,h,hc,hq=>by
  simp only[goK,Za,Zb]at h;obtain⟨rfl,_,rfl⟩:=h;simp only[Okay,Vbf]at hq ⊢;exact⟨hc,hq⟩
 | .sc::ks,c0,o0,.at c k2 S,cs,ors',out,h,hc,hq=>by
  simp only[goK,Za,Zb]at h;obtain⟨rfl,_,rfl⟩:=h;simp only[Okay,Vbf]at hq ⊢;exact⟨hc,hq⟩
 | .bk id::ks,c0,o0,.at c k2 S,cs,ors',out,h,hc,hq=>by
  simp only[goK,Za,Zb]at h;obtain⟨rfl,_,rfl⟩:=h;simp only[Okay,Vbf]at hq ⊢;exact⟨hc,hq⟩
def Nxt{α:Type}(P:Program)(K:α->Exit->St->Prop)(M:α)(X:Cf):Prop:=match X with
 |some (_,_,out)=>Okay P (K M) out
 |none=>False
structure Nx {α:Type} (P:Program) (K:α->Exit->St->Prop) (M:α) (X:Cf):Prop where
 x:Nxt P K M X
structure OCx (H:Prop) where
 o:List Oq
 c:List Prop
 h:H->All c
abbrev OC:=OCx True
def csOf(X:Cf):Option (List Prop):=match X with
 |some (cs,[],_)=>some cs
 |_=>none
theorem adv_sound{X:Cf}{ors:List Oq}{cs:List Prop}(h:csOf (adv P X ors)=some cs)(hc:All cs){Q:Exit->St->Prop}{out:Out}(ho:∀ o,adv P X ors=some o->Okay P Q o.2.2):∃ c0 o0 out0,X=some (c0,o0,out0)/\Okay P Q out0:=by
 unfold adv at h ho
 split at h
 ·rename_i c0 o0 c ks S;simp only at ho;refine⟨_,_,_,rfl,?_⟩;cases hg:go P false c ors S with
  |none=>rw[hg]at h;unfold goK at h;simp[csOf]at h
  | some r=>
   obtain⟨c1,o1,out1⟩:=r;rw[hg]at h ho;cases hk:goK P ks (some (c1,o1,out1))with
   |none=>rw[hk]at h;simp[csOf]at h
   |some r2=>
    obtain⟨c2,o2,out2⟩:=r2;rw[hk]at h
    have hq:=ho _ hk;unfold csOf at h
    split at h
    ·rename_i e;simp only[Za,Zb]at e h;obtain⟨rfl,rfl,rfl⟩:=e;subst h;obtain⟨q1,q2⟩:=Vaq Q ks _ _ _ _ _ _ hk hc hq;exact go_sound _ _ _ _ _ _ _ hg q1 _ q2
    ·simp at h
 ·simp[csOf]at h
theorem GO{α:Type}{K:α->Exit->St->Prop}{M:α}{X:Cf}(oc:OC)(h:csOf (adv P X oc.o)=some oc.c)(hn:Nx P K M (adv P X oc.o)):Nx P K M X:=by
 obtain⟨c0,o0,out0,rfl,hq⟩:=adv_sound (Q:=K M) (out:=.fin .normal ⟨[],[],[]⟩) h (oc.h trivial) (λo ho=>by have:=hn.x;rw[ho]at this;exact this);exact⟨hq⟩
def start(c:Code)(S:St):Cf:=some ([],[],.at c [] S)
def Vbc(fn:Func):Code:=fn.body.getD .skip
def KE{α:Type}(P:Program)(fn:Func)(enc:α->SV)(bx':List (Nat×ABox))(gn':List (Key×Nat))(M:α):Exit->St->Prop:=Ends P fn (enc M) bx' gn'
def isAv:SV->Bool
 | .av _=>true
 |_=>false
def okFn (fn : Func) (args : List SV) (res : SV) : Bool := fn.body.isSome && !(fn.name == "runtime.NumGoroutine") && decide (args.length <= fn.ntmps) && args.all isAv && isAv res
theorem ok_av{s:SV}(h:isAv s=true)(ids:List Nat)(gn:List (Key×Nat)):OkSV ids gn s:=by
 cases s <;>simp_all[isAv,OkSV,SV.keys]
theorem BEG{α:Type}(enc:α->SV)(M:α){f:FuncId}{fn:Func}{args:List SV}(hf:P.funcs[f]? =some fn)(hok:okFn fn args (enc M)=true)
  (h:Nx P (KE P fn enc [] []) M (start (Vbc fn) ⟨args++List.replicate (fn.ntmps-args.length) .junk,[],[]⟩)):Va2 P f args [] [] (enc M) [] []:=by
 simp only[okFn,Ze,decide_eq_true_eq,Zu]at hok;obtain⟨⟨⟨⟨h1,h2⟩,h3⟩,h4⟩,h5⟩:=hok;obtain⟨c,hb⟩:=Zj.1 h1
 have e:Vbc fn=c:=by simp[Vbc,hb]
 refine Ve3 hf hb h2 rfl h3 ku ku ?_ ku (ok_av h5 _ _) ku rfl rfl ?_
 ·intro s hs;rw[Zk]at h4;exact ok_av (h4 s hs) _ _
 ·rw[<-e];exact h.x
theorem UF{α:Type}{K:α->Exit->St->Prop}{M M':α}{X:Cf}(e:M=M')(h:Nx P K M' X):Nx P K M X:=by rw[e];exact h
theorem CS{α:Type}{K:α->Exit->St->Prop}{b:Bool}{t u:α}{X:Cf}(h1:b=true->Nx P K t X)(h2:b=false->Nx P K u X):Nx P K (cond b t u) X:=by
 cases b
 ·exact h2 rfl
 ·exact h1 rfl
theorem CSd{α:Type}{K:α->Exit->St->Prop}{p:Prop}[Decidable p]{t u:α}{X:Cf}(h1:p->decide p=true->Nx P K t X)(h2:¬ p->decide p=false->Nx P K u X):Nx P K (cond (decide p) t u) X:=
 CS (λh=>h1 (of_decide_eq_true h) h) (λh=>h2 (of_decide_eq_false h) h)
theorem CSe{α:Type}{K:α->Exit->St->Prop}{x y:Int}{t u:α}{X:Cf}(h1:x=y->(x==y)=true->Nx P K t X)(h2:x≠y->(x==y)=false->Nx P K u X):Nx P K (cond (x==y) t u) X:=
 CS (λh=>h1 (eq_of_beq h) h) (λh=>h2 (ne_of_beq_false h) h)
theorem CSn{α:Type}{K:α->Exit->St->Prop}{x y:Int}{t u:α}{X:Cf}(h1:x≠y->(x !=y)=true->Nx P K t X)(h2:x=y->(x !=y)=false->Nx P K u X):Nx P K (cond (x !=y) t u) X:=
 CS (λh=>h1 (bne_iff_ne.1 h) h) (λh=>h2 (Vah h) h)
def Vls(P:Program)(fn:Func)(X:Cf):Option SV:=match X with
 |some (_,_,.fin .ret S)=>aRes P fn S false
 |some (_,_,.fin .normal S)=>aRes P fn S false
 |_=>none
theorem EN{α:Type}{fn:Func}{enc:α->SV}{M:α}{X:Cf}(h:Vls P fn X=some (enc M)):Nx P (KE P fn enc [] []) M X:=by
 unfold Vls at h
 split at h
 ·exact⟨ends (.inl rfl) h rfl ku ku⟩
 ·exact⟨ends (.inr rfl) h rfl ku ku⟩
 ·simp at h
def KL{α:Type}(P:Program)(I:Nat->α->St->Prop)(n:Nat)(ks:List Fm)(K:α->Exit->St->Prop)(M:α):Exit->St->Prop:=
 Voi (λS'=>∃ m S'',m<n/\Weak S' S''/\I m M S'') (Kont P (K M) ks)
def stOf(X:Cf):St:=match X with
 |some (_,_,.fin _ S)=>S
 |some (_,_,.at _ _ S)=>S
 |none=>⟨[],[],[]⟩
def lpC(X:Cf):Code:=match X with
 |some (_,_,.at (.loop c) _ _)=>c
 |_=>.skip
def lpK(X:Cf):List Fm:=match X with
 |some (_,_,.at _ ks _)=>ks
 |_=>[]
def isLp(X:Cf):Bool:=match X with
 |some (_,_,.at (.loop _) _ _)=>true
 |_=>false
theorem LP{α:Type}{K:α->Exit->St->Prop}{M:α}{X:Cf}(I:Nat->α->St->Prop)(hX:isLp X=true){n:Nat}{S0:St}(h0:I n M S0)(hw:Weak (stOf X) S0)
  (round:∀ n M S,I n M S->Nx P (KL P I n (lpK X) K) M (start (lpC X) S)):Nx P K M X:=by
 unfold isLp at hX
 split at hX
 ·rename_i c0 o0 c ks S;exact⟨W_loop (I:=λn S=>I n M S) hw h0 (λn S' hI=>(round n M S' hI).x)⟩
 ·simp at hX
def Vnr(X:Cf):Option Exit:=match X with
 |some (_,_,.fin e _)=>some e
 |_=>none
theorem AG{α:Type}{K:α->Exit->St->Prop}{M:α}{X:Cf}{I:Nat->α->St->Prop}{n m:Nat}{ks:List Fm}{S'':St}(hi:I m M S'')(hw:Weak (stOf X) S'')(hX:Vnr X=some .normal)(hm:m<n):Nx P (KL P I n ks K) M X:=by
 unfold Vnr at hX
 split at hX
 ·simp only[Za]at hX;subst hX;exact⟨⟨m,S'',hm,hw,hi⟩⟩
 ·simp at hX
def outX(P:Program)(ks:List Fm)(X:Cf)(ors:List Oq):Cf:=match X with
 |some (_,_,.fin .normal _)=>none
 |some (_,_,.fin e S)=>goK P ks (some ([],ors,.fin e S))
 |_=>none
theorem OUT{α:Type}{K:α->Exit->St->Prop}{M:α}{X:Cf}{I:Nat->α->St->Prop}{n:Nat}{ks:List Fm}(oc:OC)(h:csOf (outX P ks X oc.o)=some oc.c)(hn:Nx P K M (outX P ks X oc.o)):Nx P (KL P I n ks K) M X:=by
 obtain⟨hn⟩:=hn;unfold outX at h hn
 split at h
 ·simp[csOf]at h
 ·rename_i c0 o0 e S hne;simp only at hn;cases hk:goK P ks (some ([],oc.o,.fin e S))with
  |none=>rw[hk]at h;simp[csOf]at h
  |some r=>
   obtain⟨c2,o2,out2⟩:=r;rw[hk]at h hn;unfold csOf at h
   split at h
   ·rename_i e2;simp only[Za,Zb]at e2 h;obtain⟨rfl,rfl,rfl⟩:=e2;subst h;obtain⟨q1,q2⟩:=Vaq (K M) ks _ _ _ _ _ _ hk (oc.h trivial) hn;exact⟨skipS q2 (by rintro rfl;first|exact hne rfl|exact hne _ rfl|exact hne _ _ rfl)⟩
   ·simp at h
 ·simp[csOf]at h
def kk(a b:List (Key×Nat)):List Key:=a.map (·.1)++b.map (·.1)
def gv(a:List (Key×Nat))(l:List Key):List Nat:=l.map (λk=>(a.lookup k).getD 0)
abbrev SeenN:=Nat×List (Option SV)×List (Option ABox)×List Nat
def seesN(S:St)(ks bs:List Nat)(gn:List (Key×Nat)):SeenN:=(S.fr.length,ks.map (λk=>S.fr[k]?),bs.map (λb=>S.bx.lookup b),gv S.gn (kk S.gn gn))
theorem gv_gen{a b:List (Key×Nat)}(h:gv a (kk a b)=gv b (kk a b))(k:Key):(a.lookup k).getD 0=(b.lookup k).getD 0:=by
 by_cases hk:k∈kk a b
 ·have:∀(l:List Key),gv a l=gv b l->k∈l->(a.lookup k).getD 0=(b.lookup k).getD 0:=by
   intro l
   induction l with
   |nil=>intro _ hm;simp at hm
   |cons q l ih=>
    intro he hm;simp only[gv,Zi,Zr]at he;simp only[Zp]at hm;rcases hm with rfl|hm
    ·exact he.1
    ·exact ih he.2 hm
  exact this _ h hk
 ·have n1:a.lookup k=none:=by
   rw[Zy];intro p hp;simp;intro e;exact hk (by rw[e];exact List.mem_append.2 (.inl (Z2 hp)))
  have n2:b.lookup k=none:=by
   rw[Zy];intro p hp;simp;intro e;exact hk (by rw[e];exact List.mem_append.2 (.inr (Z2 hp)))
  rw[n1,n2]
theorem WK{S:St}{n:Nat}{l:List (Nat×SV)}{bx:List (Nat×ABox)}{gn:List (Key×Nat)}(h:seesN S (Viu l) (Vqd bx) gn=(n,Vir l,Vqc bx,gv gn (kk S.gn gn))):Weak S (sx n l bx gn):=by
 simp only[seesN,Zb]at h;obtain⟨h1,h2,h3,h4⟩:=h
 have hw:=Vfx (S:=S) (n:=n) (l:=l) (bx:=bx) (gn:=S.gn) (by simp only[seesB,h1,h2,h3]);intro G w a hr
 have hr2:=hw G w a hr;exact⟨hr2.wf,hr2.size,hr2.fr,hr2.bx,λk=>by rw[hr2.gn k];exact gv_gen h4 k,hr2.defers⟩
def putL(S:St):List (Nat×SV)->St
 |[]=>S
 |(t,v)::l=>putL (S.put (some t) v) l
def fixP(S:St):List (Nat×SV)->List Prop
 |[]=>[]
 |(t,v)::l=>WkS S (Vcd S (some t)) v::fixP (S.put (some t) v) l
theorem Vp4:∀(l:List (Nat×SV))(S:St),All (fixP S l)->Weak S (putL S l)
 |[],S,_=>λ_ _ _ h=>h
 | (t,v)::l,S,h=>by
  intro G w a hr;refine Vp4 l (S.put (some t) v) h.2 G w a ?_;refine⟨hr.wf,by simp only[St.put,Z1];exact hr.size,λu s hu=>?_,hr.bx,hr.gn,hr.defers⟩;simp only[St.put]at hu;rw[Zm]at hu
  split at hu
  ·rename_i hd;subst hd
   split at hu
   ·rename_i hlt;simp only[Za]at hu;subst hu;refine WkS_rep hr.gn h.1 (hr.fr t _ ?_);simp[Vcd,List.getD,hlt]
   ·simp at hu
  ·exact hr.fr u s hu
theorem WKf{S:St}{n:Nat}{l:List (Nat×SV)}{bx:List (Nat×ABox)}{gn:List (Key×Nat)}(fx:List (Nat×SV)){cs:List Prop}(hc:All cs)(h:(fixP S fx,seesN (putL S fx) (Viu l) (Vqd bx) gn)=(cs,n,Vir l,Vqc bx,gv gn (kk (putL S fx).gn gn))):Weak S (sx n l bx gn):=by
 simp only[Zb]at h;obtain⟨rfl,h⟩:=h;intro G w a hr;exact WK (n:=n) (l:=l) (bx:=bx) (gn:=gn) (by simp only[h]) G w a (Vp4 fx S hc G w a hr)
def Vfs(S:St)(b k:Nat):SV:=match S.bx.lookup b with
 |some (.cells _ l)=>l.getD k .junk
 |_=>.junk
def Vcr(S:St)(b k:Nat)(v:SV):St:=match S.bx.lookup b with
 |some (.cells t l)=>S.setBox b (.cells t (l.set k v))
 |_=>S
theorem Vp5{S:St}{b k:Nat}{v:SV}(h:WkS S (Vfs S b k) v):Weak S (Vcr S b k v):=by
 intro G w a hr;unfold Vcr
 split
 ·rename_i t l hl;simp only[Vfs,hl]at h;refine⟨hr.wf,hr.size,hr.fr,λp hp=>?_,hr.gn,hr.defers⟩;simp only[St.setBox,Zo]at hp;obtain⟨q,hq,rfl⟩:=hp
  split
  ·rename_i hqb
   have hb:=hr.bx _ (Vad hl);simp only at hb ⊢;rw[hqb];obtain⟨blk,arr,g1,g2,g3,g4,g5⟩:=hb;refine⟨blk,arr,g1,g2,g3,?_,g5⟩
   have key:∀(l:List SV)(k:Nat)(us:List Value),WkS S (l.getD k .junk) v->RepSs G w l us->RepSs G w (l.set k v) us:=by
    intro l
    induction l with
    |nil=>intro k us _ hu;exact hu
    |cons s l ih=>
     intro k us hw hu;obtain⟨u,us',e,h2,h3⟩:=hu;cases k with
     |zero=>exact⟨u,us',e,WkS_rep hr.gn hw h2,h3⟩
     |succ k=>exact⟨u,us',e,h2,ih k us' hw h3⟩
   exact key l k _ h g4
  ·exact hr.bx q hq
 ·exact hr
def Vnd(S:St):List (Nat×Nat×SV)->St
 |[]=>S
 |(b,k,v)::l=>Vnd (Vcr S b k v) l
def cellP(S:St):List (Nat×Nat×SV)->List Prop
 |[]=>[]
 |(b,k,v)::l=>WkS S (Vfs S b k) v::cellP (Vcr S b k v) l
theorem Vh7:∀(l:List (Nat×Nat×SV))(S:St),All (cellP S l)->Weak S (Vnd S l)
 |[],S,_=>λ_ _ _ h=>h
 |(b,k,v)::l,S,h=>λG w a hr=>Vh7 l _ h.2 G w a (Vp5 h.1 G w a hr)
def retell(X:Cf)(l:List (Nat×Nat×SV)):Cf:=match X with
 |some (c,o,.at d ks S)=>some (c,o,.at d ks (Vnd S l))
 |_=>none
theorem RT{α:Type}{K:α->Exit->St->Prop}{M:α}{X:Cf}(l:List (Nat×Nat×SV)){cs:List Prop}(hc:All cs)(h:cellP (stOf X) l=cs)(hn:Nx P K M (retell X l)):Nx P K M X:=by
 obtain⟨hn⟩:=hn;subst h;unfold retell at hn
 split at hn
 ·rename_i c o d ks S;exact⟨Vai (Vh7 l S hc) hn⟩
 ·exact hn.elim
section
variable {H:Prop}
def z:OCx H:=⟨[],[],λ_=>trivial⟩
def tn(n:Nat)(r:OCx H):OCx H:=⟨r.o,Vne n True r.c,λh=>akn n (r.h h)⟩
def kp{p:Prop}(h:p)(r:OCx H):OCx H:=⟨r.o,p::r.c,λq=>⟨h,r.h q⟩⟩
def kb{b d:Bool}(h:b=d)(r:OCx H):OCx H:=⟨.o (.b d)::r.o,(b=d)::r.c,λq=>⟨h,r.h q⟩⟩
def ke{l:List AV}{i:Int}{y:AV}(h:0<=i/\l[i.toNat]? =some y)(r:OCx H):OCx H:=⟨.o (.e y)::r.o,(0<=i/\l[i.toNat]? =some y)::r.c,λq=>⟨h,r.h q⟩⟩
def kn{k:IntKind}{x m:Int}(h:k.wrap x=m)(r:OCx H):OCx H:=⟨.o (.n m)::r.o,(k.wrap x=m)::r.c,λq=>⟨h,r.h q⟩⟩
def kc{f:FuncId}{args:List SV}{res:SV}(h:Va2 P f args [] [] res [] [])(r:OCx H):OCx H:=⟨.o (.c res [] [] [])::r.o,Va2 P f args [] [] res [] []::True::r.c,λq=>⟨h,trivial,r.h q⟩⟩
def kg{f:FuncId}{args:List SV}{res:SV}{bx bx':List (Nat×ABox)}{gn gn':List (Key×Nat)}{p:Prop}(h:Va2 P f args bx gn res bx' gn')(hg:p)(r:OCx H):OCx H:=⟨.o (.c res bx' gn gn')::r.o,Va2 P f args bx gn res bx' gn'::p::r.c,λq=>⟨h,hg,r.h q⟩⟩
def kq(i:Nat)(r:OCx H):OCx H:=⟨.p i::r.o,r.c,r.h⟩
def kw{l0 l:List AV}(h:l0=l)(r:OCx H):OCx H:=⟨.w l::r.o,(l0=l)::r.c,λq=>⟨h,r.h q⟩⟩
def kj(b:Bool)(x:OCx (H/\b=true))(y:OCx (H/\b=false))(r:OCx H):OCx H:=⟨.j x.o y.o::r.o,(b=true->All x.c)::(b=false->All y.c)::r.c,λq=>⟨λh=>x.h ⟨q,h⟩,λh=>y.h ⟨q,h⟩,r.h q⟩⟩
def ks(b:Bool)(ts:List Nat)(x:OCx (H/\b=true))(y:OCx (H/\b=false))(r:OCx H):OCx H:=⟨.s ts x.o y.o::r.o,(b=true->All x.c)::(b=false->All y.c)::r.c,λq=>⟨λh=>x.h ⟨q,h⟩,λh=>y.h ⟨q,h⟩,r.h q⟩⟩
def hp{p:Prop}(h:H->p)(r:OCx H):OCx H:=⟨r.o,p::r.c,λq=>⟨h q,r.h q⟩⟩
def he{l:List AV}{i:Int}{y:AV}(h:H->0<=i/\l[i.toNat]? =some y)(r:OCx H):OCx H:=⟨.o (.e y)::r.o,(0<=i/\l[i.toNat]? =some y)::r.c,λq=>⟨h q,r.h q⟩⟩
def hn{k:IntKind}{x m:Int}(h:H->k.wrap x=m)(r:OCx H):OCx H:=⟨.o (.n m)::r.o,(k.wrap x=m)::r.c,λq=>⟨h q,r.h q⟩⟩
def hc{f:FuncId}{args:List SV}{res:SV}(h:H->Va2 P f args [] [] res [] [])(r:OCx H):OCx H:=⟨.o (.c res [] [] [])::r.o,Va2 P f args [] [] res [] []::True::r.c,λq=>⟨h q,trivial,r.h q⟩⟩
def hw{l0 l:List AV}(h:H->l0=l)(r:OCx H):OCx H:=⟨.w l::r.o,(l0=l)::r.c,λq=>⟨h q,r.h q⟩⟩
end
end
end Go.Eng
namespace Go.Eng
def oneV(P:Program)(o:Oper)(ors:List Oq)(S:St):Option (List Or×List Oq×SV×BG):=
 match runV P o [] S with
 |some (_,v,bx,gn)=>some ([],ors,v,bx,gn)
 | none=>match ors with
  | .o x::ors=>match runV P o [x] S with
   |some (_,v,bx,gn)=>some ([x],ors,v,bx,gn)
   |none=>none
  |_=>none
def Vk8:List Or->Bool
 |[]=>true
 |x::_=>Vi7 x
def mkDS(P:Program)(ds:List (Option Tmp)):List Oper->List Oq->St->Option (List DS×List Oq)
 |[],ors,_=>some ([],ors)
 | o::rest,ors,S=>match o.guard with
  | none=>match oneV P o ors S with
   | some (us,ors1,v,bx,gn)=>match still o.op&&Vk8 us with
    |true=>match mkDS P ds rest ors1 (S.put o.dst v)with
     |some (l,r)=>some (⟨us,none,v,none⟩::l,r)
     |none=>none
    |false=>match mkDS P ds rest ors1 ((⟨S.fr,bx,gn⟩:St).put o.dst v)with
     |some (l,r)=>some (⟨us,none,v,some (bx,gn)⟩::l,r)
     |none=>none
   |none=>none
  | some (j,want)=>match Vdg ds S j with
   |some (.av (.tup []))=>match mkDS P ds rest ors (S.put o.dst Vas)with
    |some (l,r)=>some (⟨[],none,Vas,none⟩::l,r)
    |none=>none
   | some (.av (.val (.bool _)))=>match ors with
    | .o (.b d)::ors=>match decide (d=want)with
     | true=>match oneV P o ors S with
      | some (us,ors1,v,bx,gn)=>match still o.op&&Vk8 us with
       |true=>match mkDS P ds rest ors1 (S.put o.dst v)with
        |some (l,r)=>some (⟨us,some d,v,none⟩::l,r)
        |none=>none
       |false=>match mkDS P ds rest ors1 ((⟨S.fr,bx,gn⟩:St).put o.dst v)with
        |some (l,r)=>some (⟨us,some d,v,some (bx,gn)⟩::l,r)
        |none=>none
      |none=>none
     |false=>match mkDS P ds rest ors (S.put o.dst Vas)with
      |some (l,r)=>some (⟨[],some d,Vas,none⟩::l,r)
      |none=>none
    |_=>none
   |_=>none
abbrev VB:=SV×BG
def Vkz(P:Program)(o:Oper)(s:DS)(f:List SV)(st:List DS)(b0:BG):List (Option Nat)->Option (List Prop×List VB×List VB)
 |[]=>some ([],[],[])
 |c::l=>match runV P o s.ors ⟨f,(Vd0 st b0 c).1,(Vd0 st b0 c).2⟩,Vkz P o s f st b0 l with
  |some (cs,v,bx,gn),some (r,x,y)=>some (cs++r,(v,bx,gn)::x,(s.v,s.out.getD (Vd0 st b0 c))::y)
  |_,_=>none
section
variable {P:Program}
theorem All_app{a b:List Prop}(ha:All a)(hb:All b):All (a++b):=by
 induction a with
 |nil=>exact hb
 |cons p a ih=>exact⟨ha.1,ih ha.2⟩
theorem Vq2{o:Oper}{s:DS}{f:List SV}{st:List DS}{b0:BG}:∀(l:List (Option Nat))(cs:List Prop)(x y:List VB),Vkz P o s f st b0 l=some (cs,x,y)->All cs->x=y->∃ c,dRuns P o s f st b0 l=some c/\All c
 |[],cs,x,y,h,hc,e=>⟨[],rfl,trivial⟩
 |c::l,cs,x,y,h,hc,e=>by
  simp only[Vkz]at h
  split at h
  ·rename_i cs1 v bx gn r x1 y1 h1 h2;simp only[Za,Zb]at h;obtain⟨rfl,rfl,rfl⟩:=h;obtain⟨hc1,hc2⟩:=Vb7 hc;simp only[Zr,Zb]at e;obtain⟨⟨e1,e2⟩,e3⟩:=e;obtain⟨c',g1,g2⟩:=Vq2 l _ _ _ h2 hc2 e3;refine⟨cs1++(v=s.v/\(bx,gn)=s.out.getD (Vd0 st b0 c))::c',by simp only[dRuns,h1,g1],All_app hc1 ?_⟩;exact⟨⟨e1,e2⟩,g2⟩
  ·simp at h
theorem Vmd{o:Oper}{s:DS}{f:List SV}{st:List DS}{b0:BG}:∀(l:List (Option Nat))(cs:List Prop)(x y:List VB),Vkz P o s f st b0 l=some (cs,x,y)->x.length=y.length
 |[],cs,x,y,h=>by simp only[Vkz,Za,Zb]at h;obtain⟨_,rfl,rfl⟩:=h;rfl
 |c::l,cs,x,y,h=>by
  simp only[Vkz]at h
  split at h
  ·rename_i cs1 v bx gn r x1 y1 h1 h2;simp only[Za,Zb]at h;obtain⟨rfl,rfl,rfl⟩:=h;simp[Vmd l _ _ _ h2]
  ·simp at h
structure DrawR where
 ops:List Oper
 st:List DS
 f0:List SV
 b0:BG
 ks:List Fm
 rest:List Oq
def ko{H:Prop}(x:Or)(r:OCx H):OCx H:=⟨.o x::r.o,r.c,r.h⟩
def eO{l:List AV}{i:Int}{y:AV}(h:0<=i/\l[i.toNat]? =some y):Or:=.e y
def nO{k:IntKind}{x m:Int}(h:k.wrap x=m):Or:=.n m
def cO{f:FuncId}{args:List SV}{res:SV}{bx bx':List (Nat×ABox)}{gn gn':List (Key×Nat)}(h:Va2 P f args bx gn res bx' gn'):Or:=.c res bx' gn gn'
def hb{H:Prop}{b d:Bool}(h:H->b=d)(r:OCx H):OCx H:=⟨.o (.b d)::r.o,(b=d)::r.c,λq=>⟨h q,r.h q⟩⟩
def hl{H:Prop}{v y:AV}(h:H->v=y)(r:OCx H):OCx H:=⟨.o (.e y)::r.o,True::(v=y)::r.c,λq=>⟨trivial,h q,r.h q⟩⟩
end
end Go.Eng
namespace Go.Eng
section
variable {P:Program} {fr:List SV} {bx ex:List (Nat×ABox)} {gn:List (Key×Nat)} {r:Res}
def Apart(ex bx:List (Nat×ABox)):Prop:=∀ p∈ex,∀q∈bx,p.1≠q.1
theorem Vdd(h:Apart ex bx){b:Nat}{x:ABox}(hx:bx.lookup b=some x):(ex++bx).lookup b=some x:=by
 have hm:=Vad hx;rw[List.lookup_append]
 have:ex.lookup b=none:=by
  rw[Zy];intro p hp
  have:=h p hp _ hm;simpa using Ne.symm this
 rw[this];simpa using hx
theorem Vb9(x:Operand):(⟨fr,ex++bx,gn⟩:St).ev x=(⟨fr,bx,gn⟩:St).ev x:=by cases x <;>rfl
theorem Vmk{o:Oper}(ha:Apart ex bx)(hs:still o.op=true)(h:Vb6 P o ⟨fr,bx,gn⟩=some r):Vb6 P o ⟨fr,ex++bx,gn⟩=some ⟨r.ok,r.v,⟨fr,ex++bx,gn⟩⟩:=by
 unfold Vb6 at h ⊢
 split at h
 all_goals first|(rename_i ho;rw[ho]at hs)|(simp at h;done)
 all_goals try (simp only[still,Zg]at hs;done)
 all_goals try simp only[Vb9]
 all_goals try (simp only[Za]at h;subst h;rfl)
 ·unfold aPick at h ⊢;split at h <;>simp at h;subst h;rfl
 ·unfold aBinS at h ⊢
  split at h
  ·unfold aBinB at h ⊢;split at h
   ·split at h <;>simp at h <;>subst h <;>rfl
   ·simp at h
  ·rw[Zf]at h ⊢;obtain⟨q,h1,rfl⟩:=h;exact⟨q,h1,rfl⟩
  ·unfold aBinA at h ⊢;split at h
   ·split at h
    ·rename_i hc;rw[if_pos hc];split at h <;>simp at h <;>subst h <;>rfl
    ·simp at h
   ·simp at h
  ·simp at h
 ·unfold aUnS at h ⊢;split at h
  ·rw[Zf]at h ⊢;obtain⟨q,h1,rfl⟩:=h;exact⟨q,h1,rfl⟩
  ·simp at h
 ·unfold Vf1 at h ⊢;split at h
  ·rw[Zf]at h ⊢;obtain⟨q,h1,rfl⟩:=h;exact⟨q,h1,rfl⟩
  ·rw[Zf]at h ⊢;obtain⟨q,h1,rfl⟩:=h;exact⟨q,h1,rfl⟩
  ·simp at h
 ·unfold Vdj at h ⊢;split at h <;>simp at h <;>subst h <;>rfl
 ·unfold Viy at h ⊢
  split at h
  ·split at h
   ·split at h
    ·simp at h
    ·rename_i hz;rw[if_neg hz];split at h <;>simp at h <;>subst h <;>rfl
   ·simp at h
  ·simp at h
 ·unfold Vin at h ⊢
  split at h
  ·split at h
   ·split at h
    ·rename_i hl;rw[Zf]at h;obtain⟨q,h1,rfl⟩:=h;simp only[Vdd ha hl,h1,Option.map_some]
    ·simp at h
   ·rw[Zf]at h ⊢;obtain⟨q,h1,rfl⟩:=h;exact⟨q,h1,rfl⟩
   ·simp at h
  ·split at h
   ·split at h
    ·split at h
     ·rename_i hl;simp only[Vdd ha hl]
      split at h
      ·rename_i e1
       split at h
       ·rename_i e2
        split at h
        ·rename_i e3;simp only[Za]at h;subst h;simp only[e1,e2,if_pos e3]
        ·simp at h
       ·simp at h
      ·rename_i e1
       split at h
       ·rename_i e2
        split at h
        ·rename_i e3;simp only[Za]at h;subst h;simp only[e1,e2,if_pos e3]
        ·simp at h
       ·simp at h
     ·simp at h
    ·split at h
     ·rename_i e3;rw[if_pos e3];simp only[Za]at h;subst h;rfl
     ·simp at h
    ·simp at h
   ·simp at h
  ·simp at h
 ·unfold Vqn at h ⊢;rw[Vkh (S:=⟨fr,ex++bx,gn⟩) (S':=⟨fr,bx,gn⟩) (λp _=>Vb9 p.2)]
  split at h
  ·split at h
   ·rename_i e1;rw[if_pos e1];rw[Zf]at h ⊢;obtain⟨q,h1,rfl⟩:=h;exact⟨q,h1,rfl⟩
   ·simp at h
  ·simp at h
 ·unfold Vbz at h ⊢;rw[Vkj (S:=⟨fr,ex++bx,gn⟩) (S':=⟨fr,bx,gn⟩) (λp _=>Vb9 p)]
  split at h
  ·split at h
   ·split at h
    ·rename_i e1;rw[if_pos e1];simp only[Za]at h;subst h;rfl
    ·simp at h
   ·simp at h
  ·simp at h
 ·unfold Vec at h ⊢
  split at h
  ·split at h
   ·simp only[Za]at h;subst h;rfl
   ·simp at h
  ·split at h
   ·split at h
    ·rename_i e1;simp only[if_pos e1];simp only[Za]at h;subst h;rfl
    ·simp at h
   ·simp at h
  ·split at h
   ·split at h
    ·split at h
     ·rename_i e1;rw[if_pos e1];simp only[Za]at h;subst h;rfl
     ·simp at h
    ·simp at h
   ·split at h
    ·split at h
     ·simp only[Za]at h;subst h;rfl
     ·simp at h
    ·simp at h
 ·unfold Vqm at h ⊢
  split at h
  ·split at h
   ·rename_i e1;rw[if_pos e1];simp only[Za]at h;subst h;rfl
   ·simp at h
  ·split at h
   ·split at h
    ·simp only[Za]at h;subst h;rfl
    ·simp at h
   ·simp at h
  ·simp at h
 ·have hm:∀ q:Option Operand,q.map (⟨fr,ex++bx,gn⟩:St).ev=q.map (⟨fr,bx,gn⟩:St).ev:=by intro q;cases q <;>simp[Vb9]
  simp only[hm];unfold Vqj at h ⊢
  split at h
  ·split at h
   ·split at h
    ·split at h
     ·simp only[Za]at h;subst h;rfl
     ·simp only[Za]at h;subst h;rfl
    ·simp at h
   ·simp at h
  split at h
  ·split at h
   ·split at h
    ·rename_i e1;rw[if_pos e1];simp only[Za]at h;subst h;rfl
    ·simp at h
   ·simp at h
  ·split at h
   ·split at h
    ·simp only[Za]at h;subst h;rfl
    ·simp at h
   ·simp at h
  ·simp at h
 ·unfold Vdv at h ⊢
  split at h
  ·simp only[Vb9];unfold aLen at h ⊢
   split at h
   ·split at h
    ·rename_i e1;rw[if_pos e1];simp only[Za]at h;subst h;rfl
    ·simp at h
   ·split at h
    ·rename_i e1;rw[if_pos e1];simp only[Za]at h;subst h;rfl
    ·simp at h
   split at h
   ·split at h
    ·rename_i e1;rw[if_pos e1];simp only[Za]at h;subst h;rfl
    ·simp at h
   ·split at h
    ·rename_i e1;rw[if_pos e1];simp only[Za]at h;subst h;rfl
    ·simp at h
   ·simp at h
  ·simp[still]at hs
  ·simp only[Vb9]
   split at h
   ·split at h
    ·rename_i e1;rw[if_pos e1];simp only[Za]at h;subst h;rfl
    ·simp at h
   ·simp at h
  ·simp only[Vb9]
   split at h
   ·split at h
    ·rename_i e1;rw[if_pos e1];simp only[Za]at h;subst h;rfl
    ·simp at h
   ·simp at h
  ·simp only[Vb9]
   split at h
   ·split at h
    ·rename_i e1;rw[if_pos e1];simp only[Za]at h;subst h;rfl
    ·simp at h
   ·simp at h
  ·simp[still]at hs
  ·simp at h
 ·unfold Vf0 at h ⊢
  split at h
  ·split at h
   ·split at h
    ·rename_i e1;rw[if_pos e1]
     split at h
     ·split at h
      ·split at h
       ·rename_i hl;simp only[Vdd ha hl];simp only[Za]at h;subst h;rfl
       ·simp at h
      ·simp only[Za]at h;subst h;rfl
      ·simp only[Za]at h;subst h;rfl
      ·simp at h
     ·simp at h
    ·simp at h
   ·simp at h
  ·simp at h
 ·unfold Vhm at h ⊢
  split at h
  ·split at h
   ·simp only[Za]at h;subst h;rfl
   ·simp at h
  ·split at h
   ·simp only[Za]at h;subst h;rfl
   ·simp at h
  ·split at h
   ·simp only[Za]at h;subst h;rfl
   ·simp at h
  ·simp at h
theorem Vps{l:List (Key×Nat)}:gnOk ⟨fr,ex++bx,gn⟩ l=gnOk ⟨fr,bx,gn⟩ l:=by
 induction l with
 |nil=>rfl
 |cons p l ih=>obtain⟨k,g⟩:=p;simp only[gnOk,ih];rfl
theorem Vp8{o:Oper}:opVs o ⟨fr,ex++bx,gn⟩=opVs o ⟨fr,bx,gn⟩:=by
 unfold opVs;simp only[Vb9]
theorem runV0_more{o:Oper}{ors:List Or}{cs:List Prop}{v:SV}{bx':List (Nat×ABox)}{gn':List (Key×Nat)}(ha:Apart ex bx)(hs:still o.op=true)(hq:Vk8 ors=true)(h:Vh5 P o ors ⟨fr,bx,gn⟩=some (cs,v,bx',gn')):
  bx'=bx/\gn'=gn/\Vh5 P o ors ⟨fr,ex++bx,gn⟩=some (cs,v,ex++bx,gn):=by
 unfold Vh5 at h ⊢
 split at h
 ·simp only[Vb9]
  split at h
  ·simp only[Za,Zb]at h;obtain⟨rfl,rfl,rfl,rfl⟩:=h;exact⟨rfl,rfl,rfl⟩
  ·simp at h
 ·simp only[Vb9]
  split at h
  ·split at h
   ·rename_i hk;simp only[Za,Zb]at h;obtain⟨rfl,rfl,rfl,rfl⟩:=h;rw[if_pos hk];exact⟨rfl,rfl,rfl⟩
   ·simp at h
  ·simp only[Za,Zb]at h;obtain⟨rfl,rfl,rfl,rfl⟩:=h;exact⟨rfl,rfl,rfl⟩
  ·simp at h
 ·simp only[Vb9]
  split at h
  ·split at h
   ·rename_i hk;simp only[Za,Zb]at h;obtain⟨rfl,rfl,rfl,rfl⟩:=h;rw[if_pos hk];exact⟨rfl,rfl,rfl⟩
   ·simp at h
  ·simp at h
 ·simp only[Vb9]
  split at h
  ·split at h
   ·rename_i hk;simp only[Za,Zb]at h;obtain⟨rfl,rfl,rfl,rfl⟩:=h;rw[if_pos hk];exact⟨rfl,rfl,rfl⟩
   ·simp at h
  ·simp at h
 ·simp only[Vb9]
  split at h
  ·split at h
   ·split at h
    ·rename_i hk;simp only[Za,Zb]at h;obtain⟨rfl,rfl,rfl,rfl⟩:=h;rw[if_pos hk];exact⟨rfl,rfl,rfl⟩
    ·simp at h
   ·simp at h
  ·split at h
   ·split at h
    ·simp only[Za,Zb]at h;obtain⟨rfl,rfl,rfl,rfl⟩:=h;exact⟨rfl,rfl,rfl⟩
    ·simp at h
   ·simp at h
 ·simp only[Vb9]
  split at h
  ·rename_i f fs cs' res bx2 gn2 gn3 hx
   split at h
   case h_2=>simp at h
   simp only[Za,Zb]at h;obtain⟨rfl,rfl,rfl,rfl⟩:=h;simp only[Vk8]at hq;unfold Vi7 at hq
   split at hq
   ·rename_i e;simp only[Or.c.injEq]at e;obtain⟨_,rfl,_,rfl⟩:=e;simp only[upd_nil,hx,Vb8];rw[Ve1 (S:=⟨fr,ex++bx,gn⟩) (S':=⟨fr,bx,gn⟩) (λp _=>Vb9 p),Vps];refine⟨trivial,trivial,?_⟩
    have hf:∀ l:List (Nat×ABox),l.filter (λp=>(List.map (λx=>x.1) ([]:List (Nat×ABox))).contains p.1)=[]:=by intro l;simp
    rw[hf,hf]
   ·simp at hq
   ·rename_i e;exact(e _ _ _ _ rfl).elim
  ·simp at h
 ·split at h
  ·rename_i ok' v' st' y h2;simp only[Za,Zb]at h;obtain⟨rfl,rfl,rfl,rfl⟩:=h;rw[Vmk ha hs h2];exact⟨rfl,rfl,rfl⟩
  ·simp at h
 ·split at h
  ·rename_i r h1 h2;simp only[Za,Zb]at h;obtain⟨rfl,rfl,rfl,rfl⟩:=h
   have e:=Vex h2 hs;rw[Vp8,h1,Vmk ha hs h2];simp only[e];exact⟨trivial,trivial,trivial⟩
  ·simp at h
theorem Viq{o:Oper}{ors:List Or}{r:List Prop×List Or×SV}(ha:Apart ex bx)(h:Vbd P o ors ⟨fr,bx,gn⟩=some r):Vbd P o ors ⟨fr,ex++bx,gn⟩=some r:=by
 unfold Vbd at h ⊢
 split at h
 ·rename_i t x y ors2 ho;simp only[Vb9]
  split at h
  ·rename_i b s i k hx
   try simp only
   split at h
   ·rename_i e s' l hb ht;simp only at hb;rw[Vdd ha hb];simp only[ht];exact h
   ·rename_i e s' l n _ _ hb ht hti;simp only at hb;rw[Vdd ha hb];simp only[ht,hti];exact h
   ·simp at h
  ·simp at h
 ·simp only[Vb9];exact h
 ·simp at h
theorem runV_more{o:Oper}{ors:List Or}{cs:List Prop}{v:SV}{bx':List (Nat×ABox)}{gn':List (Key×Nat)}(ha:Apart ex bx)(hs:still o.op=true)(hq:Vk8 ors=true)(h:runV P o ors ⟨fr,bx,gn⟩=some (cs,v,bx',gn')):
  bx'=bx/\gn'=gn/\runV P o ors ⟨fr,ex++bx,gn⟩=some (cs,v,ex++bx,gn):=by
 unfold runV at h ⊢
 split at h
 ·rename_i c v' hv;rw[Viq ha hv];simp only[Za,Zb]at h;obtain⟨rfl,rfl,rfl,rfl⟩:=h;exact⟨rfl,rfl,rfl⟩
 ·simp at h
 ·rename_i hv
  have:Vbd P o ors ⟨fr,ex++bx,gn⟩=none:=by
   unfold Vbd
   split
   ·rename_i t x y ors2 ho;unfold Vh5 at h;simp only[ho]at h;simp at h
   ·rename_i t x i ors2 ho;unfold Vbd at hv;simp only[ho]at hv;simp only[Vb9];exact hv
   ·rfl
  rw[this];exact runV0_more ha hs hq h
def Vn0:Op->SV->Bool
 | .call {callee:=.builtin .append,args:=_,argTypes:=_},.av _=>true
 |_,_=>false
theorem aAppend_av{d:Option Tmp}{t t2:TypeId}{x y:SV}{v:AV}(h:Vfu P d t t2 x y ⟨fr,bx,gn⟩=some r)(hv:r.v=.av v):r.st=⟨fr,bx,gn⟩/\Vfu P d t t2 x y ⟨fr,ex++bx,gn⟩=some ⟨r.ok,r.v,⟨fr,ex++bx,gn⟩⟩:=by
 unfold Vfu at h ⊢
 split at h
 ·split at h
  ·rename_i e d sz bt z hT
   split at h
   ·rename_i hc
    split at h
    ·rename_i l' hl;cases x with
     |own k g sz' l=>simp only at h;split at h <;>simp at h;subst h;simp at hv
     |vs b n=>
      simp only at h;split at h
      ·split at h <;>simp at h;subst h;simp at hv
      ·simp at h
     |clo l=>simp only[Za]at h;subst h;simp only[hT,if_pos hc,hl];exact⟨trivial,trivial⟩
     |nil=>simp only[Za]at h;subst h;simp at hv
     |_=>simp at h
    ·simp at h
   ·simp at h
  ·simp at h
 ·simp at h
theorem runV_moreA{o:Oper}{ors:List Or}{cs:List Prop}{v:SV}{bx':List (Nat×ABox)}{gn':List (Key×Nat)}(hs:Vn0 o.op v=true)(h:runV P o ors ⟨fr,bx,gn⟩=some (cs,v,bx',gn')):
  bx'=bx/\gn'=gn/\runV P o ors ⟨fr,ex++bx,gn⟩=some (cs,v,ex++bx,gn):=by
 unfold Vn0 at hs
 split at hs
 ·rename_i args tys v ho
  have hv:∀ S:St,Vbd P o ors S=none:=λS=>by unfold Vbd;rw[ho]
  unfold runV at h ⊢;rw[hv]at h ⊢;simp only[Vh5,ho,Vch,Vcv,Bool.true_and,Bool.or_false]at h ⊢
  split at h
  ·rename_i r h1 h2;simp only[Za,Zb]at h;obtain⟨rfl,hvr,rfl,rfl⟩:=h
   have h3:r.st=⟨fr,bx,gn⟩/\Vb6 P o ⟨fr,ex++bx,gn⟩=some ⟨r.ok,r.v,⟨fr,ex++bx,gn⟩⟩:=by
    unfold Vb6 at h2 ⊢;rw[ho]at h2 ⊢;simp only[Vdv]at h2 ⊢
    split at h2
    all_goals first|(simp only[Vb9];exact aAppend_av h2 hvr)|(simp at h2;done)|(rename_i e _ _;cases e;done)|(rename_i e _;cases e;done)
   rw[Vp8,h1,h3.2];simp only[h3.1];exact⟨trivial,trivial,by rw[hvr]⟩
  ·simp at h
 ·simp at hs
end
def isVck:ABox->Bool
 | .vck _ _ _=>true
 | .ge _=>true
 |_=>false
def readC:List Or->Bool
 |[.c _ b' [] []]=>b'.any (λp=>isVck p.2)
 |_=>false
def Vnc:List Or->List Nat
 |[.c _ b' _ _]=>b'.map (·.1)
 |_=>[]
theorem runV_moreC{P:Program}{fr:List SV}{ex bx:List (Nat×ABox)}{gn:List (Key×Nat)}{o:Oper}{ors:List Or}{cs:List Prop}{v:SV}(ha:Apart ex bx)(hc:readC ors=true)(hex:∀ p∈ex,(Vnc ors).contains p.1=false)(h:runV P o ors ⟨fr,bx,gn⟩=some (cs,v,bx,gn)):
  runV P o ors ⟨fr,ex++bx,gn⟩=some (cs,v,ex++bx,gn):=by
 unfold readC at hc
 split at hc
 case h_2=>cases hc
 rename_i res b';clear hc;unfold runV at h ⊢
 split at h
 ·rename_i c v' hv;rw[Viq ha hv];simp only[Za,Zb]at h;obtain⟨rfl,rfl,_,_⟩:=h;rfl
 ·simp at h
 ·rename_i hv
  have:Vbd P o [.c res b' [] []] ⟨fr,ex++bx,gn⟩=none:=by
   unfold Vbd
   split
   ·rename_i ho;cases ho
   ·rename_i t x i ors2 ho;unfold Vbd at hv;simp only[ho]at hv;simp only[Vb9];exact hv
   ·rfl
  rw[this];clear this hv
  show Vh5 P o [.c res b' [] []] ⟨fr,ex++bx,gn⟩=_;unfold Vh5 at h ⊢
  split at h
  case h_6=>
   simp only[Vb9]
   split at h
   ·rename_i f fs cs' res2 b2 gn2 gn3 hx heq;simp only[Zr,Or.c.injEq,and_true]at heq;obtain⟨rfl,rfl,rfl,rfl⟩:=heq
    split at h
    case h_2=>simp at h
    rename_i hvi;simp only[Za,Zb]at h ⊢;obtain⟨h1,h2,h3,h4⟩:=h
    have hf:(ex++bx).filter (λp=>(b'.map (λx=>x.1)).contains p.1)=bx.filter (λp=>(b'.map (λx=>x.1)).contains p.1):=by
     rw[List.filter_append,List.filter_eq_nil_iff.2 (λp hp=>?_),List.nil_append]
     have:=hex p hp;simp only[Vnc]at this;rw[this];simp
    have hlk:∀ p∈ex,b'.lookup p.1=none:=λp hp=>by
     have:=hex p hp;simp only[Vnc,List.contains_eq_mem,Zo,decide_eq_false_iff_not,not_exists,not_and]at this;rw[Zy];intro q hq
     have:=this q hq;simpa using λe=>this e.symm
    have hup:((⟨fr,ex++bx,gn⟩:St).upd b' []).bx=ex++((⟨fr,bx,gn⟩:St).upd b' []).bx:=by
     rw[Vgf hvi,Vgf hvi];simp only[List.map_append];congr 1
     conv=>rhs;rw[<-List.map_id ex]
     apply List.map_congr_left;intro p hp;rw[hlk p hp];rfl
    have hgn2:((⟨fr,ex++bx,gn⟩:St).upd b' []).gn=((⟨fr,bx,gn⟩:St).upd b' []).gn:=by
     rw[Vgf hvi,Vgf hvi]
    refine⟨?_,h2,by rw[hup,h3],by rw[hgn2,h4]⟩;rw[<-h1,Ve1 (S:=⟨fr,ex++bx,gn⟩) (S':=⟨fr,bx,gn⟩) (λp _=>Vb9 p),Vps,hf]
   ·simp at h
  all_goals (exfalso;revert h;repeat' split)
  all_goals (intro h;first|(cases h;done)|(rename_i e;cases e;done)|(rename_i e _;cases e;done)|(rename_i e _ _;cases e;done)|(simp_all;done))
def Vo3(P:Program)(o:Oper):Option (Nat×ABox):=match o.op,o.dst with
 | .alloc t,some id=>match Vak P t with
  |some (_,_,some z)=>some (id,.cells t (zeroCells z))
  |_=>none
 |_,_=>none
def alAt(P:Program)(ops:List Oper)(k:Nat):Option (Nat×ABox):=(ops[k]?).bind (Vo3 P)
def exs(P:Program)(ops:List Oper)(st:List DS)(L:Nat->Bool):Nat->List (Nat×ABox)
 |0=>[]
 | m+1=>match L m with
  | true=>match Vb2 st m with
   |some _=>[]
   |none=>match alAt P ops m with
    |some p=>p::exs P ops st L m
    |none=>exs P ops st L m
  |false=>exs P ops st L m
def hasKey(l:List (Nat×ABox))(id:Nat):Bool:=l.any (λp=>p.1==id)
def alSt(P:Program)(ops:List Oper)(st:List DS)(M:List Nat)(b0:BG):Bool:=
 (Zv ops.length).all fun k=>match alAt P ops k with
  |none=>true
  | some p=>(Vb2 st k).isNone&& !hasKey b0.1 p.1&&(Zv ops.length).all fun e=>
    (match Vb2 st e with|some b=>Vdc M k e&&(decide (k<e)|| !hasKey b.1 p.1)|none=>true)&&
    (match alAt P ops e with|some q=>e==k|| !(q.1==p.1)|none=>true)
section
variable {P:Program} {ops:List Oper} {st:List DS} {M:List Nat} {f0:List SV} {b0:BG}
theorem Vig{L:Nat->Bool}:∀ {m:Nat} {p:Nat×ABox},p∈exs P ops st L m->∃ k,k<m/\L k=true/\alAt P ops k=some p/\∀ e,k<e->e<m->(Vb2 st e).isSome=true->L e=false
 |0,p,h=>by simp[exs]at h
 | m+1,p,h=>by
  simp only[exs]at h
  split at h
  ·rename_i hL
   split at h
   ·simp at h
   ·rename_i ho
    split at h
    ·rename_i q hq;simp only[Zp]at h;rcases h with rfl|h
     ·exact⟨m,by omega,hL,hq,λe h1 h2=>by omega⟩
     ·obtain⟨k,h1,h2,h3,h4⟩:=Vig h;refine⟨k,by omega,h2,h3,λe q1 q2 q3=>?_⟩;rcases Zd e m with h5|h5
      ·exact h4 e q1 h5 q3
      ·have:e=m:=by omega
       subst this;rw[ho]at q3;simp at q3
    ·obtain⟨k,h1,h2,h3,h4⟩:=Vig h;refine⟨k,by omega,h2,h3,λe q1 q2 q3=>?_⟩;rcases Zd e m with h5|h5
     ·exact h4 e q1 h5 q3
     ·have:e=m:=by omega
      subst this;rw[ho]at q3;simp at q3
  ·rename_i hL;obtain⟨k,h1,h2,h3,h4⟩:=Vig h;refine⟨k,by omega,h2,h3,λe q1 q2 q3=>?_⟩;rcases Zd e m with h5|h5
   ·exact h4 e q1 h5 q3
   ·have:e=m:=by omega
    subst this;exact hL
theorem Vji{L L':Nat->Bool}:∀ {m:Nat},(∀k,k<m->((Vb2 st k).isSome=true\/(alAt P ops k).isSome=true)->L k=L' k)->exs P ops st L m=exs P ops st L' m
 |0,_=>rfl
 | m+1,h=>by
  have ih:=@Vji L L' m (λk hk=>h k kv);simp only[exs,ih];cases ho:Vb2 st m with
  |some b=>rw[h m kv (.inl (by rw[ho];rfl))]
  |none=>
   cases ha:alAt P ops m with
   |some p=>rw[h m kv (.inr (by rw[ha];rfl))]
   |none=>cases L m <;>cases L' m <;>rfl
theorem exs_upto{L:Nat->Bool}{i:Nat}(h:∀ k,i<=k->((Vb2 st k).isSome=true\/(alAt P ops k).isSome=true)->L k=false):∀ m,i<=m->exs P ops st L m=exs P ops st L i:=by
  intro m
  induction m with
  | zero => intro hm;have:i=0:=by omega
            subst this;rfl
  | succ m ih=>
    intro hm;rcases Zd m i with hlt|hge
    · have:i=m+1:=by omega
      subst this;rfl
    · rw[<-ih hge];simp only[exs];cases ho:Vb2 st m with
      |some b=>rw[h m hge (.inl (by rw[ho];rfl))]
      | none=>
        cases ha:alAt P ops m with
        |some p=>rw[h m hge (.inr (by rw[ha];rfl))]
        |none=>cases L m <;>rfl
theorem exs_eff{L:Nat->Bool}{i:Nat}(hi:(Vb2 st i).isSome=true)(h:∀ k,i<k->((Vb2 st k).isSome=true\/(alAt P ops k).isSome=true)->L k=false):∀ m,i<m->exs P ops st (also L i) m=[]:=by
 intro m hm
 have hu:∀ k,i+1<=k->((Vb2 st k).isSome=true\/(alAt P ops k).isSome=true)->also L i k=false:=by
  intro k hk hs;simp only[also,if_neg (show ¬k=i by omega)];exact h k kv hs
 rw[exs_upto hu m kv];simp only[exs,also,if_true];obtain⟨b,hb⟩:=Zj.1 hi;rw[hb]
theorem exs_al{L:Nat->Bool}{i:Nat}{p:Nat×ABox}(hp:alAt P ops i=some p):∀ m q,q∈exs P ops st (also L i) m->q=p\/q∈exs P ops st L m\/∃ e,i<e/\e<m/\(Vb2 st e).isSome=true/\L e=true:=by
 intro m
 induction m with
 |zero=>intro q hq;simp[exs]at hq
 | succ m ih=>
  intro q hq;simp only[exs]at hq ⊢
  by_cases hm:m=i
  ·subst hm;simp only[also,if_true]at hq;cases ho:Vb2 st m with
   |some b=>rw[ho]at hq;simp at hq
   | none=>
    rw[ho,hp]at hq;simp only[Zp]at hq;rcases hq with rfl|hq
    ·exact .inl rfl
    ·rcases ih q hq with h|h|⟨e,h1,h2,h3⟩
     ·exact .inl h
     ·refine .inr (.inl ?_);cases L m
      ·exact h
      ·simp only[hp];exact List.mem_cons_of_mem _ h
     ·omega
  ·rw[show also L i m=L m by simp only[also,if_neg hm]]at hq;cases hL:L m with
   |false=>
    rw[hL]at hq;rcases ih q hq with h|h|⟨e,h1,h2,h3⟩
    ·exact .inl h
    ·exact .inr (.inl h)
    ·exact .inr (.inr ⟨e,h1,by omega,h3⟩)
   | true=>
    rw[hL]at hq;simp only at hq ⊢;cases ho:Vb2 st m with
    |some b=>rw[ho]at hq;simp at hq
    | none=>
     rw[ho]at hq;simp only at hq ⊢;cases ha:alAt P ops m with
     |none=>
      rw[ha]at hq;rcases ih q hq with h|h|⟨e,h1,h2,h3⟩
      ·exact .inl h
      ·exact .inr (.inl h)
      ·exact .inr (.inr ⟨e,h1,by omega,h3⟩)
     | some p'=>
      rw[ha]at hq;simp only[Zp]at hq ⊢;rcases hq with rfl|hq
      ·exact .inr (.inl (.inl rfl))
      ·rcases ih q hq with h|h|⟨e,h1,h2,h3⟩
       ·exact .inl h
       ·exact .inr (.inl (.inr h))
       ·exact .inr (.inr ⟨e,h1,by omega,h3⟩)
theorem Vjf{L:Nat->Bool}{i k:Nat}{o:Oper}(hg:Good ops st M L i o)(h:Vdc M i k=true):(k<i->L k=true)/\(i<k->L k=false):=by
 simp only[Vdc,Zs,Ze,decide_eq_true_eq]at h;rcases h with⟨h1,h2⟩|⟨h1,h2⟩
 ·exact⟨λ_=>hg.down k h2 kv,λh=>by omega⟩
 ·refine⟨λh=>by omega,λ_=>?_⟩;cases hL:L k with
  |false=>rfl
  |true=>rw[hg.up k hL]at h2;simp at h2
theorem Vp7(M:List Nat)(i k:Nat):Vdc M i k=Vdc M k i:=by
 simp only[Vdc];rw[Bool.or_comm]
theorem alAt_lt{k:Nat}{p:Nat×ABox}(h:alAt P ops k=some p):k<ops.length:=by
 rcases Zd k ops.length with h1|h1
 ·exact h1
 ·simp[alAt,Zh h1]at h
theorem outOf_lt{k:Nat}(h:(Vb2 st k).isSome=true):k<st.length:=by
 rcases Zd k st.length with h1|h1
 ·exact h1
 ·simp[Vb2,Zh h1]at h
theorem Vo2{k:Nat}{p:Nat×ABox}(hs:alSt P ops st M b0=true)(hst:st.length=ops.length)(hk:alAt P ops k=some p):Vb2 st k=none/\(∀q∈b0.1,q.1≠p.1)/\(∀e b,Vb2 st e=some b->Vdc M k e=true/\(e<k->∀ q∈b.1,q.1≠p.1))/\(∀e q,alAt P ops e=some q->e≠k->q.1≠p.1):=by
 have hkl:=alAt_lt hk;simp only[alSt,Zk,Zq]at hs
 have h1:=hs k hkl;rw[hk]at h1;simp only[Ze,Zu,Zk,Zq]at h1;obtain⟨⟨h2,h3⟩,h4⟩:=h1
 have nk:∀ l:List (Nat×ABox),hasKey l p.1=false->∀ q∈l,q.1≠p.1:=by
  intro l hl q hq;simp only[hasKey,Zz]at hl;simpa using hl q hq
 refine⟨by simpa using h2,nk _ h3,λe b hb=>?_,λe q hq hne=>?_⟩
 ·have hel:e<ops.length:=by rw[<-hst];exact outOf_lt (by rw[hb];rfl)
  have:=h4 e hel;rw[hb]at this;simp only[Ze]at this;obtain⟨⟨q1,q2⟩,_⟩:=this;refine⟨q1,λhlt=>nk _ ?_⟩;simp only[Zs,decide_eq_true_eq,Zu]at q2;rcases q2 with q2|q2
  ·omega
  ·exact q2
 ·have:=h4 e (alAt_lt hq)
  have:=this.2;rw[hq]at this;simp only[Zs,beq_iff_eq,Zu,beq_eq_false_iff_ne]at this;rcases this with h|h
  ·exact absurd h hne
  ·exact h
theorem Vpw{L:Nat->Bool}(hs:alSt P ops st M b0=true)(hst:st.length=ops.length):Apart (exs P ops st L ops.length) (bxD st b0 L ops.length).1:=by
 intro p hp q hq;obtain⟨k,h1,h2,h3,h4⟩:=Vig hp;obtain⟨g1,g2,g3,g4⟩:=Vo2 hs hst h3;rcases bx_last (st:=st) (b0:=b0) (L:=L) ops.length with⟨e1,e2⟩|⟨e,e1,e2,e3,e4,e5⟩
 ·rw[e1]at hq;exact Ne.symm (g2 q hq)
 ·rw[e4]at hq;obtain⟨b,hb⟩:=Zj.1 e3;simp only[Vd0,hb,Option.getD_some]at hq;rcases Nat.lt_trichotomy e k with hlt|heq|hgt
  ·exact Ne.symm ((g3 e b hb).2 hlt q hq)
  ·subst heq;rw[g1]at hb;simp at hb
  ·have:=h4 e hgt e1 e3;rw[e2]at this;simp at this
theorem alBox_zero{o:Oper}{p:Nat×ABox}(h:Vo3 P o=some p)(id:Nat):p.2.svs.any (SV.names id)=false:=by
 unfold Vo3 at h
 split at h
 ·split at h
  ·rename_i z hz;simp only[Za]at h;subst h;rw[Zz];intro s hs;simp only[ABox.svs,zeroCells,Zo]at hs;obtain⟨c,_,rfl⟩:=hs;simp[Vl1]
  ·simp at h
 ·simp at h
theorem alloc_more{o:Oper}{p:Nat×ABox}{ors:List Or}{fr fr':List SV}{bx ex bx':List (Nat×ABox)}{gn gn':List (Key×Nat)}{cs:List Prop}{v:SV}(hp:Vo3 P o=some p)(h:runV P o ors ⟨fr,bx,gn⟩=some (cs,v,bx',gn'))(hfr:fr'.any (SV.names p.1)=false)
  (hex:∀ q∈ex,q.1≠p.1/\q.2.svs.any (SV.names p.1)=false):bx'=p::bx/\gn'=gn/\runV P o ors ⟨fr',ex++bx,gn⟩=some (cs,v,p::(ex++bx),gn):=by
 unfold Vo3 at hp
 split at hp
 ·rename_i t id ho hd
  split at hp
  ·rename_i z hz;simp only[Za]at hp;subst hp;simp only at hfr hex
   have hv:∀ S,Vbd P o ors S=none:=by intro S;unfold Vbd;rw[ho]
   unfold runV at h ⊢;simp only[hv]at h ⊢;unfold Vh5 at h ⊢;simp only[ho]at h ⊢;simp only[Vch,Vcv,Bool.or_true]at h ⊢;unfold Vb6 at h ⊢;simp only[ho]at h ⊢;unfold Vqo at h ⊢;simp only[hd,hz]at h ⊢
   by_cases hc:(z.cells.toList.all λc=>c.oneCell')=true/\id<1000/\(⟨fr,bx,gn⟩:St).names id=false
   ·rw[if_pos hc]at h
    have hn:(⟨fr',ex++bx,gn⟩:St).names id=false:=by
     have:=hc.2.2;simp only[St.names,Bool.or_eq_false_iff]at this ⊢;refine⟨hfr,?_⟩;rw[List.any_append,this.2,Bool.or_false,Zz];intro q hq
     have:=hex q hq;simp[this.1,this.2]
    rw[if_pos ⟨hc.1,hc.2.1,hn⟩];cases ors with
    |nil=>
     simp only[Za,Zb,St.addBox]at h ⊢;obtain⟨rfl,rfl,rfl,rfl⟩:=h;exact⟨rfl,rfl,rfl,rfl,trivial⟩
    |cons x l=>simp at h
   ·rw[if_neg hc]at h;simp at h
  ·simp at hp
 ·simp at hp
def runAt(P:Program)(o:Oper)(s:DS)(f:List SV)(b want:BG):Option (List Prop×List VB×List VB):=
 match runV P o s.ors ⟨f,b.1,b.2⟩with
 |some (cs,v,bx,gn)=>some (cs,[(v,bx,gn)],[(s.v,want)])
 |none=>none
def dRun3(P:Program)(ops:List Oper)(st:List DS)(M:List Nat)(f:List SV)(b0:BG)(i:Nat)(o:Oper)(s:DS):Option (List Prop×List VB×List VB):=
 match alAt P ops i with
 |some p=>runAt P o s f (Vd0 st b0 (Vcu st i)) (p::(Vd0 st b0 (Vcu st i)).1,(Vd0 st b0 (Vcu st i)).2)
 | none=>match s.out with
  |some b=>runAt P o s f (exs P ops st (λ_=>true) i++(Vd0 st b0 (Vcu st i)).1,(Vd0 st b0 (Vcu st i)).2) b
  |none=>match(still o.op&&Vk8 s.ors)||Vn0 o.op s.v||(readC s.ors&&(Zv ops.length).all (λk=>match alAt P ops k with|some q=> !(Vnc s.ors).contains q.1|none=>true))with
   |true=>Vkz P o s f st b0 (cands st M ops.length i)
   |false=>none
def dOp3(P:Program)(ops:List Oper)(st:List DS)(M:List Nat)(f0:List SV)(b0:BG)(i:Nat):Option (List Prop×List VB×List VB):=
 match ops[i]?,st[i]? with
 | some o,some s=>(match alOk ops st M f0 i o with
  |false=>none
  |true=>
  match o.guard with
  |none=>dRun3 P ops st M (frD ops st f0 (λ_=>true) i) b0 i o s
  | some (j,want)=>match guardOk ((Vea ops j).bind ((frD ops st f0 (fun _=>true) i)[·]?)) want s.gd with
   |some (cs,true)=>match dRun3 P ops st M (frD ops st f0 (λ_=>true) i) b0 i o s with
    |some (c2,r)=>some (cs++c2,r)
    |none=>none
   |some (cs,false)=>match s.out,alAt P ops i with
    |none,none=>some (cs,[(s.v,b0)],[(Vas,b0)])
    |_,_=>none
   |none=>none)
 |_,_=>none
def Vq6(P:Program)(ops:List Oper)(st:List DS)(M:List Nat)(f0:List SV)(b0:BG):Nat->Option (List Prop×List VB×List VB)
 |0=>some ([],[],[])
 |m+1=>match Vq6 P ops st M f0 b0 m,dOp3 P ops st M f0 b0 m with
  |some (a,x,y),some (b,x',y')=>some (a++b,x++x',y++y')
  |_,_=>none
theorem Voy{o:Oper}{s:DS}{f:List SV}{b want:BG}{cs:List Prop}{x y:List VB}(h:runAt P o s f b want=some (cs,x,y)):x.length=y.length:=by
 unfold runAt at h
 split at h
 ·simp only[Za,Zb]at h;obtain⟨_,rfl,rfl⟩:=h;rfl
 ·simp at h
theorem Vq3{f:List SV}{i:Nat}{o:Oper}{s:DS}{cs:List Prop}{x y:List VB}(h:dRun3 P ops st M f b0 i o s=some (cs,x,y)):x.length=y.length:=by
 unfold dRun3 at h
 split at h
 ·exact Voy h
 ·split at h
  ·exact Voy h
  ·split at h
   ·exact Vmd _ _ _ _ h
   ·simp at h
theorem dOp3_len{i:Nat}{cs:List Prop}{x y:List VB}(h:dOp3 P ops st M f0 b0 i=some (cs,x,y)):x.length=y.length:=by
 unfold dOp3 at h
 split at h
 ·split at h
  ·simp at h
  ·split at h
   ·exact Vq3 h
   ·split at h
    ·split at h
     ·rename_i h2;simp only[Za,Zb]at h;obtain⟨_,rfl⟩:=h;exact Vq3 h2
     ·simp at h
    ·split at h
     ·simp only[Za,Zb]at h;obtain⟨_,rfl,rfl⟩:=h;rfl
     ·simp at h
    ·simp at h
 ·simp at h
theorem Vq4:∀(n:Nat)(cs:List Prop)(x y:List VB),Vq6 P ops st M f0 b0 n=some (cs,x,y)->x.length=y.length
 |0,cs,x,y,h=>by simp only[Vq6,Za,Zb]at h;obtain⟨_,rfl,rfl⟩:=h;rfl
 |n+1,cs,x,y,h=>by
  simp only[Vq6]at h
  split at h
  ·rename_i a x1 y1 b x2 y2 h1 h2;simp only[Za,Zb]at h;obtain⟨_,rfl,rfl⟩:=h;simp[Vq4 n _ _ _ h1,dOp3_len h2]
  ·simp at h
theorem Vq5:∀(n:Nat)(cs:List Prop)(x y:List VB),Vq6 P ops st M f0 b0 n=some (cs,x,y)->All cs->x=y->∀ i,i<n->∃ c u,dOp3 P ops st M f0 b0 i=some (c,u,u)/\All c
 |0,cs,x,y,h,hc,e,i,hi=>by omega
 | n+1,cs,x,y,h,hc,e,i,hi=>by
  simp only[Vq6]at h
  split at h
  ·rename_i a x1 y1 b x2 y2 h1 h2;simp only[Za,Zb]at h;obtain⟨rfl,rfl,rfl⟩:=h;obtain⟨hc1,hc2⟩:=Vb7 hc;obtain⟨e1,e2⟩:=List.append_inj e (Vq4 n _ _ _ h1);rcases Zd i n with hlt|hge
   ·exact Vq5 n _ _ _ h1 hc1 e1 i hlt
   ·have:i=n:=by omega
    subst this;subst e2;exact⟨b,x2,h2,hc2⟩
  ·simp at h
end
theorem W_draw2{P:Program}{id:Nat}{ops:Array Oper}{Q:Exit->St->Prop}{S:St}(st:List DS){cs:List Prop}{u:List VB}(hm:P.follows .mixedOrders=true)(hst:st.length=ops.toList.length)
  (hs:Vky ops.toList st (Vgo ops.toList [])=true) (hal:alSt P ops.toList st (Vgo ops.toList []) (S.bx,S.gn)=true) (hd:Vq6 P ops.toList st (Vgo ops.toList []) S.fr (S.bx,S.gn) ops.toList.length=some (cs,u,u)) (hc:All cs)
  (hq:Q .normal ⟨frD ops.toList st S.fr (λ_=>true) ops.toList.length,exs P ops.toList st (λ_=>true) ops.toList.length++(bxD st (S.bx,S.gn) (λ_=>true) ops.toList.length).1,(bxD st (S.bx,S.gn) (λ_=>true) ops.toList.length).2⟩):W P (.region id ops true) Q S:=by
 intro G0 w0 a0 hr0;obtain⟨hstep0,hr0'⟩:=hr0.draw;apply wp_region_any hm;generalize hol:ops.toList=opl at *
 have hn:ops.size=opl.length:=by rw[<-hol];simp
 have hget:∀ i:Nat,ops[i]? =opl[i]? :=by intro i;rw[<-hol];simp
 have main:∀(fuel:Nat)(listed:Array Bool)(G:Gh)(w:World)(a:Act),listed.size=ops.size->left (λk=>listed.getD k false) opl.length<=fuel->
   (∀(k:Nat) ok,opl[k]? =some ok->listed.getD k false=true->∀ e∈ok.after,Region.binds .any e=true->listed.getD e.on false=true)->
   Rel G w ⟨frD opl st S.fr (λk=>listed.getD k false) opl.length,exs P opl st (λk=>listed.getD k false) opl.length++(bxD st (S.bx,S.gn) (λk=>listed.getD k false) opl.length).1,(bxD st (S.bx,S.gn) (λk=>listed.getD k false) opl.length).2⟩ a->
   Step G0 w0 G w->(∀i,Fx i->G.ow (i,0)=G0.ow (i,0))->wpAny P .any ops (lift Q G0 w0) fuel listed a w:=by
  intro fuel
  have done:∀(listed:Array Bool)(G:Gh)(w:World)(a:Act),(∀i,i<opl.length->listed.getD i false=true)->Rel G w ⟨frD opl st S.fr (λk=>listed.getD k false) opl.length,exs P opl st (λk=>listed.getD k false) opl.length++(bxD st (S.bx,S.gn) (λk=>listed.getD k false) opl.length).1,(bxD st (S.bx,S.gn) (λk=>listed.getD k false) opl.length).2⟩ a->
    Step G0 w0 G w->(∀i,Fx i->G.ow (i,0)=G0.ow (i,0))->lift Q G0 w0 .normal a w:=by
   intro listed G w a hall hr hst' how;rw[Vpu (L':=λ_=>true) _ hall,Vqa (L':=λ_=>true) _ hall,Vji (L':=λ_=>true) (λk hk _=>hall k hk)]at hr;exact⟨_,G,hq,hst',hr,how⟩
  induction fuel with
  |zero=>
   intro listed G w a hsz hle hcl hr hst' how
   have hall:=Vpj (Nat.le_zero.1 hle);refine⟨?_,done listed G w a hall hr hst' how⟩;rw[List.eq_nil_iff_forall_not_mem];intro j hj;obtain⟨h1,o,h2,_⟩:=mem_ready.1 hj
   have hjl:j<ops.size:=(Array.getElem?_eq_some_iff.1 h2).1
   have h3:=hall j kv;simp only[Zl]at h1 h3;rw[Array.getElem?_eq_getElem (by omega:j<listed.size)]at h1 h3;simp only[Option.getD_some]at h1 h3;rw[h1]at h3;simp at h3
  | succ fuel ih=>
   intro listed G w a hsz hle hcl hr hst' how
   have same:∀ j,j<opl.length->listed.getD j true=listed.getD j false:=by
    intro j hj;simp only[Zl];rw[Array.getElem?_eq_getElem (by omega:j<listed.size)];rfl
   refine⟨λhnil=>?_,λi hi=>?_⟩
   ·apply done listed G w a _ hr hst' how;apply Classical.byContradiction;intro hno;obtain⟨i,h1,h2,h3⟩:=least_false hno
    have:i∈Region.ready .any ops listed:=by
     rw[mem_ready];refine⟨by rw[same i h1];exact h2,opl[i],by rw[hget i];simp[h1],λe he hb=>h3 e.on ?_⟩;simp only[Vky,Zk,Zq]at hs
     have q:=hs i h1;simp only[List.getElem?_eq_getElem h1,Ze]at q
     have q1:=q.1;simp only[Zk]at q1
     have:=q1 e (by simpa using he);simpa[hb]using this
    rw[hnil]at this;simp at this
   ·obtain⟨h1,o,h2,h3⟩:=mem_ready.1 hi;rw[hget i]at h2
    have hil:i<opl.length:=by
     rcases Zd i opl.length with h|h
     ·exact h
     ·simp[Zh h]at h2
    rw[same i hil]at h1;obtain⟨s,hsi⟩:∃ s,st[i]? =some s:=⟨st[i]'(by omega),by simp⟩
    have hg:Good opl st (Vgo opl []) (λk=>listed.getD k false) i o:=by
     refine good_of rfl hs kv (λk hk=>?_) h2 h1 hcl h3;rcases Zd k opl.length with h|h
     ·exact h
     ·simp[Array.getElem?_eq_none (show listed.size<=k by omega)]at hk
    have hset:(λk=>(listed.setIfInBounds i true).getD k false)=also (λk=>listed.getD k false) i:=by
     funext k;simp only[also]
     split
     ·rename_i hk;subst hk;simp[Zl,show k<listed.size by omega]
     ·rename_i hk;rw[getD_set_ne false (Ne.symm hk)]
    have hfr2:frD opl st S.fr (also (λk=>listed.getD k false) i) opl.length=putF (frD opl st S.fr (λk=>listed.getD k false) opl.length) o.dst s.v:=by
     have:=congrArg St.fr (Vmm (f0:=S.fr) (b0:=(S.bx,S.gn)) hg h2 hil hsi);rw[show frD opl st S.fr (also (λk=>listed.getD k false) i) opl.length=_ from this];cases o.dst <;>rfl
    have hbx2:bxD st (S.bx,S.gn) (also (λk=>listed.getD k false) i) opl.length=s.out.getD (bxD st (S.bx,S.gn) (λk=>listed.getD k false) opl.length):=by
     have e:=Vmm (f0:=S.fr) (b0:=(S.bx,S.gn)) hg h2 hil hsi
     have e1:=congrArg St.bx e
     have e2:=congrArg St.gn e;apply Prod.ext
     ·rw[show(bxD st (S.bx,S.gn) (also (λk=>listed.getD k false) i) opl.length).1=_ from e1];cases o.dst <;>rfl
     ·rw[show(bxD st (S.bx,S.gn) (also (λk=>listed.getD k false) i) opl.length).2=_ from e2];cases o.dst <;>rfl
    have next:∀(G':Gh)(w':World)(a':Act),Step G w G' w'->(∀i,Fx i->G'.ow (i,0)=G.ow (i,0))->
      Rel G' w' ⟨putF (frD opl st S.fr (λk=>listed.getD k false) opl.length) o.dst s.v,exs P opl st (also (λk=>listed.getD k false) i) opl.length++(s.out.getD (bxD st (S.bx,S.gn) (λk=>listed.getD k false) opl.length)).1,(s.out.getD (bxD st (S.bx,S.gn) (λk=>listed.getD k false) opl.length)).2⟩ a'->
      wpAny P .any ops (lift Q G0 w0) fuel (listed.setIfInBounds i true) a' w':=by
     intro G' w' a' k1 k2 k3;rw[<-hfr2, <-hbx2]at k3;refine ih (listed.setIfInBounds i true) G' w' a' (by simp[hsz]) ?_ ?_ ?_ (hst'.trans k1) (λj hj=>(k2 j hj).trans (how j hj))
     ·rw[hset];have:=Vpk (L:=λk=>listed.getD k false) h1 hil;omega
     ·intro k ok hk hL e he hb
      by_cases hki:k=i
      ·subst hki;rw[h2]at hk;simp only[Za]at hk;subst hk;exact getD_set_true (h3 e he hb)
      ·rw[getD_set_ne false (Ne.symm hki)]at hL;exact getD_set_true (hcl k ok hk hL e he hb)
     ·rw[hset];exact k3
    have putE:∀(f:List SV)(bx:List (Nat×ABox))(gn:List (Key×Nat)),((⟨f,bx,gn⟩:St).put o.dst s.v)=⟨putF f o.dst s.v,bx,gn⟩:=by
     intro f bx gn;cases o.dst <;>rfl
    have pureN:alAt P opl i=none->Vb2 st i=none->exs P opl st (also (λk=>listed.getD k false) i) opl.length=exs P opl st (λk=>listed.getD k false) opl.length:=by
     intro q1 q2;refine Vji (λk hk hs=>?_);simp only[also]
     split
     ·rename_i hki;subst hki;rw[q1,q2]at hs;simp at hs
     ·rfl
    have hout:Vb2 st i=s.out:=by simp[Vb2,hsi]
    obtain⟨c,uu,hdo,hca⟩:=Vq5 _ _ _ _ hd hc rfl i hil;simp only[dOp3,h2,hsi]at hdo;cases hao:alOk opl st (Vgo opl []) S.fr i o with
    |false=>rw[hao]at hdo;simp at hdo
    |true=>
    rw[hao]at hdo;simp only at hdo
    have local_:∀ x∈o.op.operands,∀bx gn,(⟨frD opl st S.fr (λ_=>true) i,bx,gn⟩:St).ev x=(⟨frD opl st S.fr (λk=>listed.getD k false) opl.length,bx,gn⟩:St).ev x:=by
     intro x hx bx gn;cases x with
     | tmp t=>
      have:t∈looks opl o:=by
       simp only[looks,List.mem_append,Zw];exact .inl (.inl ⟨.tmp t,by simpa using hx,rfl⟩)
      simp only[St.ev,List.getD_eq_getElem?_getD];rw[Vos hg hil this]
     |_=>rfl
    have runs:∀ {cr:List Prop} {v2:List VB},dRun3 P opl st (Vgo opl []) (frD opl st S.fr (λ_=>true) i) (S.bx,S.gn) i o s=some (cr,v2,v2)->All cr->o.wp P a w (wpAny P .any ops (lift Q G0 w0) fuel (listed.setIfInBounds i true)) (lift Q G0 w0):=by
     intro cr v2 hdr hcr;obtain⟨cd,hcd,hbx⟩:=cand_mem (b0:=(S.bx,S.gn)) hg hil;unfold dRun3 at hdr
     split at hdr
     ·rename_i p hp;obtain⟨g1,g2,g3,g4⟩:=Vo2 hal hst hp
      have hbp:Vo3 P o=some p:=by simpa[alAt,h2]using hp
      have hce:bxD st (S.bx,S.gn) (λk=>listed.getD k false) opl.length=Vd0 st (S.bx,S.gn) (Vcu st i):=by
       have hu:∀ k,i<k->(Vb2 st k).isSome=true->listed.getD k false=false:=by
        intro k hk hs;obtain⟨b,hb⟩:=Zj.1 hs;exact(Vjf hg (g3 k b hb).1).2 hk
       rw[bx_upto hg.un hu opl.length kv];refine Vfj i (λk hk hs=>?_);obtain⟨b,hb⟩:=Zj.1 hs;exact(Vjf hg (g3 k b hb).1).1 hk
      unfold runAt at hdr
      split at hdr
      ·rename_i cs' v bx' gn' hr1;simp only[Za,Zb]at hdr;obtain⟨rfl,e1,e2⟩:=hdr;rw[<-e2]at e1;simp only[Zr,Zb,and_true]at e1;obtain⟨rfl,rfl,rfl⟩:=e1
       have hdst:o.dst=some p.1:=by
        unfold Vo3 at hbp
        split at hbp
        ·rename_i hd
         split at hbp
         ·simp only[Za]at hbp;subst hbp;exact hd
         ·simp at hbp
        ·simp at hbp
       have hia:Vcv o.op=true:=by
        unfold Vo3 at hbp
        split at hbp
        ·rename_i ho hd;rw[ho];rfl
        ·simp at hbp
       obtain⟨_,_,q3⟩:=alloc_more (fr':=frD opl st S.fr (λk=>listed.getD k false) opl.length) (ex:=exs P opl st (λk=>listed.getD k false) opl.length) hbp hr1 (Vl6 hao hg.un hg.up hia p.1 hdst _ (Zt _)) (by
        intro q hq;obtain⟨k,k1,k2,k3,k4⟩:=Vig hq
        have hki:k≠i:=by intro e;subst e;rw[hg.un]at k2;simp at k2
        refine⟨g4 k q k3 hki,?_⟩
        have:∃ ok,Vo3 P ok=some q:=by
         unfold alAt at k3;cases hk:opl[k]? with
         |none=>rw[hk]at k3;simp at k3
         |some ok=>rw[hk]at k3;exact⟨ok,by simpa using k3⟩
        obtain⟨ok,hok⟩:=this
        exact alBox_zero hok p.1)
       have hr':=hr;rw[hce]at hr';refine Ve6 q3 hcr hr' (λG' a' w' k1 k2 k3=>next G' w' a' k1 k3 ?_);rw[putE]at k2;rw[show s.out=none by rw[<-hout];exact g1,hce];refine⟨k2.wf,k2.size,k2.fr,λq hq=>k2.bx q ?_,k2.gn,k2.defers⟩;simp only[Option.getD_none,List.mem_append,Zp]at hq ⊢;rcases hq with hq|hq
       ·rcases exs_al hp _ q hq with h|h|⟨e,e1,e2,e3,e4⟩
        ·exact .inl h
        ·exact .inr (.inl h)
        ·obtain⟨b,hb⟩:=Zj.1 e3
         have:=(Vjf hg (g3 e b hb).1).2 e1;rw[this]at e4;simp at e4
       ·exact .inr (.inr hq)
      ·simp at hdr
     ·rename_i hna
      split at hdr
      ·rename_i b hb
       have hoi:(Vb2 st i).isSome=true:=by rw[hout,hb];rfl
       have hordE:∀ k,(Vb2 st k).isSome=true->(k<i->listed.getD k false=true)/\(i<k->listed.getD k false=false):=λk hk=>hg.eff k hoi hk
       have hordA:∀ k,(alAt P opl k).isSome=true->(k<i->listed.getD k false=true)/\(i<k->listed.getD k false=false):=by
        intro k hk;obtain⟨p,hp⟩:=Zj.1 hk;obtain⟨b',hb'⟩:=Zj.1 hoi;obtain⟨_,_,g3,_⟩:=Vo2 hal hst hp;exact Vjf hg (by rw[Vp7];exact(g3 i b' hb').1)
       have hce:bxD st (S.bx,S.gn) (λk=>listed.getD k false) opl.length=Vd0 st (S.bx,S.gn) (Vcu st i):=by
        rw[bx_upto hg.un (λk hk hs=>(hordE k hs).2 hk) opl.length kv];exact Vfj i (λk hk hs=>(hordE k hs).1 hk)
       have hxe:exs P opl st (λk=>listed.getD k false) opl.length=exs P opl st (λ_=>true) i:=by
        rw[exs_upto (i:=i) (λk hk hs=>?_) opl.length kv]
        ·exact Vji (λk hk hs=>by rcases hs with hs|hs;exact(hordE k hs).1 hk;exact(hordA k hs).1 hk)
        ·rcases Zd i k with hlt|hge
         ·rcases hs with hs|hs
          ·exact(hordE k hs).2 hlt
          ·exact(hordA k hs).2 hlt
         ·have:k=i:=by omega
          subst this;exact hg.un
       unfold runAt at hdr
       split at hdr
       ·rename_i cs' v bx' gn' hr1;simp only[Za,Zb]at hdr;obtain⟨rfl,e1,e2⟩:=hdr;rw[<-e2]at e1;simp only[Zr,Zb,and_true]at e1;obtain⟨rfl,e1⟩:=e1
        have q3:=Vm0 (fr':=frD opl st S.fr (λk=>listed.getD k false) opl.length) (λx hx=>local_ x hx _ _) (λha id hid=>Vl6 hao hg.un hg.up ha id hid _ (Zt _)) hr1
        have hr':=hr;rw[hce,hxe]at hr';refine Ve6 q3 hcr hr' (λG' a' w' k1 k2 k3=>next G' w' a' k1 k3 ?_);rw[putE]at k2;rw[hb,exs_eff hoi (λk hk hs=>by rcases hs with hs|hs;exact(hordE k hs).2 hk;exact(hordA k hs).2 hk) _ hil,List.nil_append];simp only[Option.getD_some];rw[<-e1];exact k2
       ·simp at hdr
      ·rename_i hb
       split at hdr
       ·rename_i hsq;simp only[Zs,Ze]at hsq;obtain⟨c',g1,g2⟩:=Vq2 _ _ _ _ hdr hcr rfl;obtain⟨cs',q1,q2⟩:=Vq1 g1 g2 cd hcd;rw[<-hbx]at q1
        have q3:=Vm0 (fr':=frD opl st S.fr (λk=>listed.getD k false) opl.length) (λx hx=>local_ x hx _ _) (λha id hid=>Vl6 hao hg.un hg.up ha id hid _ (Zt _)) q1;rcases hsq with(hsq|hsq)|hsq
        ·have q4:=(runV_more (Vpw hal hst) hsq.1 hsq.2 q3).2.2;refine Ve6 q4 q2 hr (λG' a' w' k1 k2 k3=>next G' w' a' k1 k3 ?_);rw[putE]at k2;rw[pureN hna (by rw[hout,hb]),hb];exact k2
        ·have q4:=(runV_moreA (ex:=exs P opl st (λk=>listed.getD k false) opl.length) hsq q3).2.2;refine Ve6 q4 q2 hr (λG' a' w' k1 k2 k3=>next G' w' a' k1 k3 ?_);rw[putE]at k2;rw[pureN hna (by rw[hout,hb]),hb];exact k2
        ·rw[hb]at q3
         have q4:=runV_moreC (Vpw hal hst) hsq.1 (λp hp=>by
          obtain⟨k,hk,_,hka,_⟩:=Vig hp
          have:=Zk.1 hsq.2 k (Zq.2 hk);rw[hka]at this
          simpa using this) q3
         refine Ve6 q4 q2 hr (λG' a' w' k1 k2 k3=>next G' w' a' k1 k3 ?_);rw[putE]at k2;rw[pureN hna (by rw[hout,hb]),hb];exact k2
       ·simp at hdr
    unfold wpOp;rw[hget i,h2];simp only;cases hgd:o.guard with
    |none=>
     rw[if_pos (by simp[Region.wanted,hgd])];simp only[hgd]at hdo;exact .inl (runs hdo hca)
    | some gw=>
     obtain⟨j,want⟩:=gw;simp only[hgd]at hdo
     have slot:∀ sv,((Vea opl j).bind λt=>(frD opl st S.fr (λ_=>true) i)[t]?)=some sv->∃ t u,(ops[j]?).bind (·.dst)=some t/\a.tmps[t]? =some u/\RepS G w sv u:=by
      intro sv hsv;cases hdj:Vea opl j with
      |none=>simp[hdj]at hsv
      | some t=>
       simp only[hdj,Zn]at hsv;rw[<-Vos hg hil (by simp[looks,hgd,hdj])]at hsv
       have hrf:=hr.fr t sv hsv
       have hlt:t<a.tmps.size:=by
        rw[<-hr.size];rcases Zd t (frD opl st S.fr (λk=>listed.getD k false) opl.length).length with h'|h'
        ·exact h'
        ·simp only[Zh h']at hsv;simp at hsv
       refine⟨t,a.tmps[t],?_,by simp[hlt],?_⟩
       ·rw[hget j];exact hdj
       ·simpa[Zl,hlt]using hrf
     have Vgx:RepS G w Vas undef:=by
      simp only[Vas,RepS,Rep];exact⟨#[],rfl,by simp[RepL]⟩
     have skip:Region.wanted o (yielded ops a.tmps)=false->s.v=Vas->s.out=none->alAt P opl i=none->(if Region.wanted o (yielded ops a.tmps)=true then o.wp P a w (wpAny P .any ops (lift Q G0 w0) fuel (listed.setIfInBounds i true)) (lift Q G0 w0)\/o.asks P a w/\LetsOut (lift Q G0 w0)else wpAny P .any ops (lift Q G0 w0) fuel (listed.setIfInBounds i true) (a.put o.dst undef) w):=by
      intro hw hv ho hna;rw[hw];simp only[Zg,if_false];refine next G w _ (Step.refl G w) (λ_ _=>rfl) ?_
      rw[pureN hna (by rw[hout,ho]),ho]
      have:=hr.put o.dst Vgx;rw[<-hv,putE]at this;exact this
     cases hgo:guardOk ((Vea opl j).bind λt=>(frD opl st S.fr (λ_=>true) i)[t]?) want s.gd with
     |none=>simp[hgo]at hdo
     | some pr=>
      obtain⟨gcs,wn⟩:=pr;rw[hgo]at hdo;generalize hsv:((Vea opl j).bind λt=>(frD opl st S.fr (λ_=>true) i)[t]?)=osv at hgo slot;unfold guardOk at hgo
      split at hgo
      ·rename_i hgd2;simp only[Za,Zb]at hgo;obtain⟨rfl,rfl⟩:=hgo;obtain⟨t,u,e1,e2,e3⟩:=slot _ rfl;simp only[RepS,Rep]at e3;obtain⟨us,rfl,_⟩:=e3;simp only at hdo
       split at hdo
       ·rename_i hno hna;simp only[Za,Zb]at hdo;obtain⟨rfl,e4,e5⟩:=hdo;rw[<-e5]at e4;simp only[Zr,Zb,and_true]at e4;exact skip (by simp only[Region.wanted,hgd,yielded,e1,Zn,e2];rfl) e4 hno hna
       ·simp at hdo
      ·rename_i b d hgd2;simp only[Za,Zb]at hgo;obtain⟨rfl,rfl⟩:=hgo;obtain⟨t,u,e1,e2,e3⟩:=slot _ rfl;simp only[RepS,Rep]at e3;obtain⟨rfl,_⟩:=e3;cases hdw:(d==want)with
       | true=>
        simp only[hdw]at hdo;cases hdr:dRun3 P opl st (Vgo opl []) (frD opl st S.fr (λ_=>true) i) (S.bx,S.gn) i o s with
        |none=>simp[hdr]at hdo
        |some cr=>
         obtain⟨cr,v1,v2⟩:=cr;simp only[hdr,Za,Zb]at hdo;obtain⟨rfl,e4,e5⟩:=hdo;rw[e4,e5]at hdr;obtain⟨hb,hcr⟩:=hca;subst hb;rw[if_pos (by simp only[Region.wanted,hgd,yielded,e1,Zn,e2];simpa using hdw)];exact .inl (runs hdr hcr)
       |false=>
        simp only[hdw]at hdo
        split at hdo
        ·rename_i hno hna;simp only[Za,Zb]at hdo;obtain⟨rfl,e4,e5⟩:=hdo;rw[<-e5]at e4;simp only[Zr,Zb,and_true]at e4;obtain⟨hb,_⟩:=hca;subst hb;exact skip (by simp only[Region.wanted,hgd,yielded,e1,Zn,e2];simpa using hdw) e4 hno hna
        ·simp at hdo
      ·simp at hgo
 refine main ops.size (Array.replicate ops.size false) G0 _ a0 ku ?_ ?_ ?_ hstep0 (λ_ _=>rfl)
 ·have:∀(L:Nat->Bool) m,left L m<=m:=by
   intro L m
   induction m with
   |zero=>simp[left]
   |succ m ih=>simp only[left];split <;>omega
  rw[hn];exact this _ _
 ·intro k ok hk hL;simp only[Zl,Array.getElem?_replicate]at hL
  split at hL <;>simp at hL
 ·have hf:(λk=>(Array.replicate ops.size false).getD k false)=λ_=>false:=by
   funext k;simp only[Zl,Array.getElem?_replicate];split <;>rfl
  rw[hf]
  have e1:∀ m,frD opl st S.fr (λ_=>false) m=S.fr:=by
   intro m;induction m with
   |zero=>rfl
   |succ m ih=>simp[frD,ih]
  have e2:∀ m,bxD st (S.bx,S.gn) (λ_=>false) m=(S.bx,S.gn):=by
   intro m;induction m with
   |zero=>rfl
   |succ m ih=>simp[bxD,ih]
  have e3:∀ m,exs P opl st (λ_=>false) m=[]:=by
   intro m;induction m with
   |zero=>rfl
   |succ m ih=>simp[exs,ih]
  rw[e1,e2,e3];exact hr0'
def mkDS3(P:Program)(ds:List (Option Tmp)):List Oper->List Oq->St->Option (List DS×List Oq)
 |[],ors,_=>some ([],ors)
 | o::rest,ors,S=>match(match o.guard with
   |none=>some (ors,none,true)
   | some (j,want)=>match Vdg ds S j with
    |some (.av (.tup []))=>some (ors,none,false)
    |some (.av (.val (.bool _)))=>match ors with
     | .o (.b d)::ors=>some (ors,some d,d==want)
     |_=>none
    |_=>none:Option (List Oq×Option Bool×Bool))with
  |none=>none
  |some (ors,gd,false)=>match mkDS3 P ds rest ors (S.put o.dst Vas)with
   |some (l,r)=>some (⟨[],gd,Vas,none⟩::l,r)
   |none=>none
  | some (ors,gd,true)=>match oneV P o ors S with
   |none=>none
   | some (us,ors1,v,bx,gn)=>match(still o.op&&Vk8 us)||Vn0 o.op v||readC us with
    |true=>match mkDS3 P ds rest ors1 (S.put o.dst v)with
     |some (l,r)=>some (⟨us,gd,v,none⟩::l,r)
     |none=>none
    |false=>match mkDS3 P ds rest ors1 ((⟨S.fr,bx,gn⟩:St).put o.dst v)with
     |some (l,r)=>some (⟨us,gd,v,match Vcv o.op with|true=>none|false=>some (bx,gn)⟩::l,r)
     |none=>none
def Vfq(P:Program)(X:Cf)(ors:List Oq):Option DrawR:=match X with
 |some (_,_,.at (.region _ ops true) ks S)=>match mkDS3 P (ops.toList.map (·.dst)) ops.toList ors S with
  |some (st,rest)=>some ⟨ops.toList,st,S.fr,(S.bx,S.gn),ks,rest⟩
  |none=>none
 |_=>none
def Vq0(P:Program)(d:Option DrawR):Option (List Prop×List VB×List VB):=match d with
 |some d=>match(d.st.length==d.ops.length)&&Vky d.ops d.st (Vgo d.ops [])&&alSt P d.ops d.st (Vgo d.ops []) d.b0 with
  |true=>Vq6 P d.ops d.st (Vgo d.ops []) d.f0 d.b0 d.ops.length
  |false=>none
 |none=>none
def drawX3(P:Program)(d:Option DrawR)(cs:List Prop):Cf:=match d with
 |some d=>goK P d.ks (some (cs,d.rest,.fin .normal ⟨frD d.ops d.st d.f0 (λ_=>true) d.ops.length,exs P d.ops d.st (λ_=>true) d.ops.length++(bxD d.st d.b0 (λ_=>true) d.ops.length).1,(bxD d.st d.b0 (λ_=>true) d.ops.length).2⟩))
 |none=>none
def Vnw(P:Program)(d:Option DrawR):List Prop:=match Vq0 P d with
 |some (cs,_)=>cs
 |none=>[False]
def drawL3(P:Program)(d:Option DrawR):List VB:=match Vq0 P d with
 |some (_,x,_)=>x
 |none=>[]
def drawRt3(P:Program)(d:Option DrawR):Option (List VB):=match Vq0 P d with
 |some (_,_,y)=>some y
 |none=>none
theorem DR3{P:Program}{α:Type}{K:α->Exit->St->Prop}{M:α}{X:Cf}(oc:OC)(hm:P.follows .mixedOrders=true)(h:csOf (drawX3 P (Vfq P X oc.o) (Vnw P (Vfq P X oc.o)))=some oc.c)(he:drawRt3 P (Vfq P X oc.o)=some (drawL3 P (Vfq P X oc.o)))(hn:Nx P K M (drawX3 P (Vfq P X oc.o) (Vnw P (Vfq P X oc.o)))):Nx P K M X:=by
 obtain⟨hn⟩:=hn;cases hd:Vfq P X oc.o with
 |none=>rw[hd]at h;simp[drawX3,csOf]at h
 | some d=>
  rw[hd]at h he hn;unfold Vfq at hd
  split at hd
  ·rename_i c0 o0 i ops ks S
   split at hd
   ·rename_i st rest hmk;simp only[Za]at hd;subst hd;cases hC:Vq0 P (some ⟨ops.toList,st,S.fr,(S.bx,S.gn),ks,rest⟩)with
    |none=>unfold drawRt3 at he;rw[hC]at he;simp at he
    | some q=>
     obtain⟨cs,x,y⟩:=q
     have exy:y=x:=by unfold drawRt3 drawL3 at he;rw[hC]at he;simpa using he
     have ecs:Vnw P (some ⟨ops.toList,st,S.fr,(S.bx,S.gn),ks,rest⟩)=cs:=by unfold Vnw;rw[hC]
     rw[ecs]at h hn;unfold Vq0 at hC;simp only at hC
     split at hC
     ·rename_i hst;simp only[Ze,beq_iff_eq]at hst;unfold drawX3 at h hn;simp only at h hn;cases hk:goK P ks (some (cs,rest,.fin .normal ⟨frD ops.toList st S.fr (λ_=>true) ops.toList.length,exs P ops.toList st (λ_=>true) ops.toList.length++(bxD st (S.bx,S.gn) (λ_=>true) ops.toList.length).1,(bxD st (S.bx,S.gn) (λ_=>true) ops.toList.length).2⟩))with
      |none=>rw[hk]at h;simp[csOf]at h
      |some r=>
       obtain⟨c2,o2,out2⟩:=r;rw[hk]at h hn;unfold csOf at h
       split at h
       ·rename_i e2;simp only[Za,Zb]at e2 h;obtain⟨rfl,rfl,rfl⟩:=e2;subst h;obtain⟨q1,q2⟩:=Vaq (K M) ks _ _ _ _ _ _ hk (oc.h trivial) hn;subst exy;exact⟨W_draw2 st hm hst.1.1 hst.1.2 hst.2 hC q1 q2⟩
       ·simp at h
     ·simp at hC
   ·simp at hd
  ·simp at hd
end Go.Eng
namespace Go.Eng
def QW(Q:Exit->St->Prop)(_:Unit):Exit->St->Prop:=λe S1=>∃ S2,Weak S1 S2/\Q e S2
theorem WN{P:Program}{c:Code}{Q:Exit->St->Prop}{S:St}(h:Nx P (QW Q) () (start c S)):W P c Q S:=W_end h.x
theorem LEAF{P:Program}{Q:Exit->St->Prop}{X:Cf}(e:Exit){S2:St}(hX:Vnr X=some e)(hw:Weak (stOf X) S2)(hq:Q e S2):Nx P (QW Q) () X:=by
 unfold Vnr at hX
 split at hX
 ·simp only[Za]at hX;subst hX;exact⟨⟨S2,hw,hq⟩⟩
 ·simp at hX
theorem ib(s:ByteArray)(i:Int)(h:0<=i/\i<((Zc s:Nat):Int)):0<=i/\i<((Zc s:Nat):Int):=h
end Go.Eng
namespace Go.Proofs.YthbpjmogdonlkaaGreatDoor
open Go Go.Eng
def el{α:Type}[Inhabited α](l:List α)(i:Nat):α:=(l[i]?).getD default
def lenM{α:Type}(f:α->AV)(l:List α):Nat:=(l.map f).length
theorem Va6{α:Type}(f:α->AV)(l:List α):lenM f l=l.length:=by simp[lenM]
theorem Vkw{α:Type}[Inhabited α]{l:List α}{i:Nat}(h:i<l.length):l[i]? =some (el l i):=by simp[el,h]
theorem Vcp{α:Type}[Inhabited α]{l:List α}{i:Nat}(h:i<l.length):el l i∈l:=List.mem_of_getElem? (Vkw h)
theorem elx{α:Type}[Inhabited α]{f:α->AV}{l:List AV}{xs:List α}{i:Nat}{y:AV}(e:l=xs.map f)(h:i<xs.length)(hy:f (el xs i)=y):0<=((i:Nat):Int)/\l[i]? =some y:=by
 subst e hy;exact⟨by omega,by simp[Vkw h]⟩
theorem elxI{α:Type}[Inhabited α]{f:α->AV}{l:List AV}{xs:List α}{i:Int}{y:AV}(e:l=xs.map f)(h0:0<=i)(h:i<(xs.length:Int))(hy:f (el xs i.toNat)=y):0<=i/\l[i.toNat]? =some y:=by
  subst e hy; exact ⟨h0, by have:i.toNat<xs.length:=by omega
                            simp[Vkw this]⟩
def w1{α:Type}(_:α):Nat:=1
def wStr(s:ByteArray):Nat:=s.size+1
def wl{α:Type}(w:α->Nat):List α->Nat
 |[]=>0
 |x::l=>w x+wl w l
theorem Vip{α:Type}{w:α->Nat}:∀ {l:List α} {x:α},x∈l->w x<=wl w l
 |y::l,x,h=>by
  simp only[Zp]at h;rcases h with rfl|h
  ·simp[wl]
  ·have:=Vip (w:=w) h;simp[wl];omega
theorem wl_el{α:Type}[Inhabited α]{w:α->Nat}{l:List α}{i:Nat}(h:i<l.length):w (el l i)<=wl w l:=Vip (Vcp h)
theorem Vd8{α:Type}{w:α->Nat}(hw:∀ x,1<=w x):∀ l:List α,l.length<=wl w l
 |[]=>by simp
 |x::l=>by have:=Vd8 hw l;have:=hw x;simp[wl];omega
def quo(k:IntKind)(a b:Int):Int:=k.wrap (a.tdiv b)
theorem el_strAV(xs:List ByteArray)(i:Nat)(h:i<xs.length):0<=((i:Nat):Int)/\(xs.map Vay)[i]? =some (Vay (el xs i)):=elx rfl h rfl
theorem el_vI(xs:List Int)(i:Nat)(h:i<xs.length):0<=((i:Nat):Int)/\(xs.map vI)[i]? =some (vI (el xs i)):=elx rfl h rfl
theorem elI_vI(xs:List Int)(i:Int)(h0:0<=i)(h:i<(xs.length:Int)):0<=i/\(xs.map vI)[i.toNat]? =some (vI (el xs i.toNat)):=elxI rfl h0 h rfl
theorem uni_strAV(l:List ByteArray):Uni 1 (l.map Vay):=by intro y hy;simp only[Zo]at hy;obtain⟨x,_,rfl⟩:=hy;exact⟨rfl,rfl⟩
theorem Vlv(l:List Int):Uni 1 (l.map vI):=by intro y hy;simp only[Zo]at hy;obtain⟨x,_,rfl⟩:=hy;exact⟨rfl,rfl⟩
theorem Vlz{s:ByteArray}(h:eqs s ⟨#[]⟩=false):0<s.size:=by
 obtain⟨⟨l⟩⟩:=s;cases l with
 |nil=>exact absurd h gj
 |cons x l=>show 0<(x::l).length;simp
theorem size_neqs_t{s:ByteArray}(h:(!eqs s ⟨#[]⟩)=true):0<s.size:=Vlz (by simpa using h)
theorem Vgc(s:ByteArray)(i:Nat):byt s i<256:=by
 unfold byt;exact UInt8.toNat_lt _
theorem Vee(s:ByteArray)(i:Nat):IntKind.i64.wrap ((byt s i:Nat):Int)=((byt s i:Nat):Int):=wrap_i64 kv (by have:=Vgc s i;omega)
theorem wStr_pos(s:ByteArray):1<=wStr s:=by simp[wStr]
structure DPair where
 fKey:ByteArray
 fValue:ByteArray
instance:Inhabited DPair:=⟨⟨⟨#[]⟩,⟨#[]⟩⟩⟩
def Vbh(x:DPair):AV:=.agg [(vS x.fKey),(vS x.fValue)]
def Vmt(x:DPair):Nat:=1+wStr x.fKey+wStr x.fValue
theorem aPair_eq(x:DPair):Vbh x=.agg [(vS x.fKey),(vS x.fValue)]:=rfl
theorem wPair_eq(x:DPair):Vmt x=1+wStr x.fKey+wStr x.fValue:=rfl
theorem el_aPair(xs:List DPair)(i:Nat)(h:i<xs.length):0<=((i:Nat):Int)/\(xs.map Vbh)[i]? =some (Vbh (el xs i)):=elx rfl h rfl
theorem uni_aPair(l:List DPair):Uni 2 (l.map Vbh):=by intro y hy;simp only[Zo]at hy;obtain⟨x,_,rfl⟩:=hy;rw[aPair_eq];exact⟨rfl,rfl⟩
theorem Vof(x:DPair):1<=Vmt x:=by rw[wPair_eq];omega
structure DAttr where
 fID:ByteArray
 fClasses:List ByteArray
 fPairs:List DPair
instance:Inhabited DAttr:=⟨⟨⟨#[]⟩,[],[]⟩⟩
def Vgw(x:DAttr):Nat:=1+wStr x.fID+(wl wStr) x.fClasses+(wl Vmt) x.fPairs
theorem Vfy(x:DAttr):Vgw x=1+wStr x.fID+(wl wStr) x.fClasses+(wl Vmt) x.fPairs:=rfl
def cAttr(x:DAttr):AV:=.agg [(vS x.fID),(.sl ((x.fClasses).map Vay)),(.sl ((x.fPairs).map Vbh))]
structure DCited where
 fKey:ByteArray
 fPrefix:ByteArray
 fSuffix:ByteArray
 fBare:Bool
instance:Inhabited DCited:=⟨⟨⟨#[]⟩,⟨#[]⟩,⟨#[]⟩,false⟩⟩
def Vbj(x:DCited):AV:=.agg [(vS x.fKey),(vS x.fPrefix),(vS x.fSuffix),(vB x.fBare)]
def Vdn(x:DCited):Nat:=1+wStr x.fKey+wStr x.fPrefix+wStr x.fSuffix+w1 x.fBare
theorem aCited_eq(x:DCited):Vbj x=.agg [(vS x.fKey),(vS x.fPrefix),(vS x.fSuffix),(vB x.fBare)]:=rfl
theorem Vog(x:DCited):Vdn x=1+wStr x.fKey+wStr x.fPrefix+wStr x.fSuffix+w1 x.fBare:=rfl
def cCited(x:DCited):AV:=.agg [(vS x.fKey),(vS x.fPrefix),(vS x.fSuffix),(vB x.fBare)]
theorem uni_aCited(l:List DCited):Uni 4 (l.map Vbj):=by intro y hy;simp only[Zo]at hy;obtain⟨x,_,rfl⟩:=hy;rw[aCited_eq];exact⟨rfl,rfl⟩
theorem wCited_pos(x:DCited):1<=Vdn x:=by rw[Vog];omega
structure DInline where
 fKind:Int
 fText:ByteArray
 fDest:ByteArray
 fTitle:ByteArray
 fAttr:DAttr
 fArgs:List ByteArray
 fCites:List DCited
 fKids:List DInline
instance:Inhabited DInline:=⟨⟨0,⟨#[]⟩,⟨#[]⟩,⟨#[]⟩,⟨⟨#[]⟩,[],[]⟩,[],[],[]⟩⟩
mutual
def Va3:DInline->AV
 |⟨y0,y1,y2,y3,y4,y5,y6,y7⟩=>.agg [(vI y0),(vS y1),(vS y2),(vS y3),(vS ((y4).fID)),(.sl (((y4).fClasses).map Vay)),(.sl (((y4).fPairs).map Vbh)),(.sl ((y5).map Vay)),(.sl ((y6).map Vbj)),(.sl (Vjj y7))]
def Vjj:List DInline->List AV
 |[]=>[]
 |x::l=>Va3 x::Vjj l
end
mutual
def Va4:DInline->Nat
 |⟨y0,y1,y2,y3,y4,y5,y6,y7⟩=>1+w1 y0+wStr y1+wStr y2+wStr y3+Vgw y4+(wl wStr) y5+(wl Vdn) y6+Vj9 y7
def Vj9:List DInline->Nat
 |[]=>0
 |x::l=>Va4 x+Vj9 l
end
theorem Vix:∀ l,Vjj l=l.map Va3
 |[]=>rfl
 |x::l=>by rw[Vjj,Vix l];rfl
theorem Vjo:∀ l,Vj9 l=wl Va4 l
 |[]=>rfl
 |x::l=>by rw[Vj9,Vjo l];rfl
theorem Vc3(x:DInline):Va3 x=.agg [(vI x.fKind),(vS x.fText),(vS x.fDest),(vS x.fTitle),(vS ((x.fAttr).fID)),(.sl (((x.fAttr).fClasses).map Vay)),(.sl (((x.fAttr).fPairs).map Vbh)),(.sl ((x.fArgs).map Vay)),(.sl ((x.fCites).map Vbj)),(.sl ((x.fKids).map Va3))]:=by cases x;rw[Va3,Vix]
theorem Vav(x:DInline):Va4 x=1+w1 x.fKind+wStr x.fText+wStr x.fDest+wStr x.fTitle+Vgw x.fAttr+(wl wStr) x.fArgs+(wl Vdn) x.fCites+(wl Va4) x.fKids:=by cases x;rw[Va4,Vjo]
def Vap(x:DInline):AV:=.agg [(vI x.fKind),(vS x.fText),(vS x.fDest),(vS x.fTitle),(vS ((x.fAttr).fID)),(.sl (((x.fAttr).fClasses).map Vay)),(.sl (((x.fAttr).fPairs).map Vbh)),(.sl ((x.fArgs).map Vay)),(.sl ((x.fCites).map Vbj)),(.sl ((x.fKids).map Va3))]
def Vgl(x:DInline):List SV:=[(jI x.fKind),(jS x.fText),(jS x.fDest),(jS x.fTitle),(jS ((x.fAttr).fID)),(jL (((x.fAttr).fClasses).map Vay)),(jL (((x.fAttr).fPairs).map Vbh)),(jL ((x.fArgs).map Vay)),(jL ((x.fCites).map Vbj)),(jL ((x.fKids).map Va3))]
theorem Vb1(xs:List DInline)(i:Nat)(h:i<xs.length):0<=((i:Nat):Int)/\(xs.map Va3)[i]? =some (Vap (el xs i)):=elx rfl h (Vc3 _)
theorem Vjq(l:List DInline):Uni 10 (l.map Va3):=by intro y hy;simp only[Zo]at hy;obtain⟨x,_,rfl⟩:=hy;rw[Vc3];exact⟨rfl,rfl⟩
theorem ap1_aInline(xs:List DInline)(y:DInline):xs.map Va3++[Vap y]=(xs++[y]).map Va3:=by simp[Vc3 y,Vap]
theorem Vb5(x:DInline):1<=Va4 x:=by rw[Vav];omega
structure DBlock where
 fKind:Int
 fLevel:Int
 fInfo:ByteArray
 fText:ByteArray
 fDest:ByteArray
 fTitle:ByteArray
 fAttr:DAttr
 fLine:List DInline
 fKids:List DBlock
instance:Inhabited DBlock:=⟨⟨0,0,⟨#[]⟩,⟨#[]⟩,⟨#[]⟩,⟨#[]⟩,⟨⟨#[]⟩,[],[]⟩,[],[]⟩⟩
structure DDoc where
 fMeta:List DPair
 fBlocks:List DBlock
instance:Inhabited DDoc:=⟨⟨[],[]⟩⟩
structure DPiece where
 fKind:Int
 fInline:DInline
 fChar:ByteArray
 fN:Int
 fOpen:Bool
 fClose:Bool
 fImage:Bool
 fAt:Int
 fTo:Int
instance:Inhabited DPiece:=⟨⟨0,⟨0,⟨#[]⟩,⟨#[]⟩,⟨#[]⟩,⟨⟨#[]⟩,[],[]⟩,[],[],[]⟩,⟨#[]⟩,0,false,false,false,0,0⟩⟩
def Vb4(x:DPiece):AV:=.agg [(vI x.fKind),(vI ((x.fInline).fKind)),(vS ((x.fInline).fText)),(vS ((x.fInline).fDest)),(vS ((x.fInline).fTitle)),(vS (((x.fInline).fAttr).fID)),(.sl ((((x.fInline).fAttr).fClasses).map Vay)),(.sl ((((x.fInline).fAttr).fPairs).map Vbh)),(.sl (((x.fInline).fArgs).map Vay)),(.sl (((x.fInline).fCites).map Vbj)),(.sl (((x.fInline).fKids).map Va3)),(vS x.fChar),(vI x.fN),(vB x.fOpen),(vB x.fClose),(vB x.fImage),(vI x.fAt),(vI x.fTo)]
theorem Vql(x:DPiece):Vb4 x=.agg [(vI x.fKind),(vI ((x.fInline).fKind)),(vS ((x.fInline).fText)),(vS ((x.fInline).fDest)),(vS ((x.fInline).fTitle)),(vS (((x.fInline).fAttr).fID)),(.sl ((((x.fInline).fAttr).fClasses).map Vay)),(.sl ((((x.fInline).fAttr).fPairs).map Vbh)),(.sl (((x.fInline).fArgs).map Vay)),(.sl (((x.fInline).fCites).map Vbj)),(.sl (((x.fInline).fKids).map Va3)),(vS x.fChar),(vI x.fN),(vB x.fOpen),(vB x.fClose),(vB x.fImage),(vI x.fAt),(vI x.fTo)]:=rfl
def Vbo(x:DPiece):AV:=.agg [(vI x.fKind),(vI ((x.fInline).fKind)),(vS ((x.fInline).fText)),(vS ((x.fInline).fDest)),(vS ((x.fInline).fTitle)),(vS (((x.fInline).fAttr).fID)),(.sl ((((x.fInline).fAttr).fClasses).map Vay)),(.sl ((((x.fInline).fAttr).fPairs).map Vbh)),(.sl (((x.fInline).fArgs).map Vay)),(.sl (((x.fInline).fCites).map Vbj)),(.sl (((x.fInline).fKids).map Va3)),(vS x.fChar),(vI x.fN),(vB x.fOpen),(vB x.fClose),(vB x.fImage),(vI x.fAt),(vI x.fTo)]
def sPiece(x:DPiece):List SV:=[(jI x.fKind),(jI ((x.fInline).fKind)),(jS ((x.fInline).fText)),(jS ((x.fInline).fDest)),(jS ((x.fInline).fTitle)),(jS (((x.fInline).fAttr).fID)),(jL ((((x.fInline).fAttr).fClasses).map Vay)),(jL ((((x.fInline).fAttr).fPairs).map Vbh)),(jL (((x.fInline).fArgs).map Vay)),(jL (((x.fInline).fCites).map Vbj)),(jL (((x.fInline).fKids).map Va3)),(jS x.fChar),(jI x.fN),(jB x.fOpen),(jB x.fClose),(jB x.fImage),(jI x.fAt),(jI x.fTo)]
theorem el_aPiece(xs:List DPiece)(i:Nat)(h:i<xs.length):0<=((i:Nat):Int)/\(xs.map Vb4)[i]? =some (Vb4 (el xs i)):=elx rfl h rfl
theorem Vii(xs:List DPiece)(i:Int)(h0:0<=i)(h:i<(xs.length:Int)):0<=i/\(xs.map Vb4)[i.toNat]? =some (Vb4 (el xs i.toNat)):=elxI rfl h0 h rfl
structure DElem where
 fkind:Int
 fpiece:DPiece
 fimage:Bool
 freferences:Int
instance:Inhabited DElem:=⟨⟨0,⟨0,⟨0,⟨#[]⟩,⟨#[]⟩,⟨#[]⟩,⟨⟨#[]⟩,[],[]⟩,[],[],[]⟩,⟨#[]⟩,0,false,false,false,0,0⟩,false,0⟩⟩
def Vb3(x:DElem):AV:=.agg [(vI x.fkind),(vI ((x.fpiece).fKind)),(vI (((x.fpiece).fInline).fKind)),(vS (((x.fpiece).fInline).fText)),(vS (((x.fpiece).fInline).fDest)),(vS (((x.fpiece).fInline).fTitle)),(vS ((((x.fpiece).fInline).fAttr).fID)),(.sl (((((x.fpiece).fInline).fAttr).fClasses).map Vay)),(.sl (((((x.fpiece).fInline).fAttr).fPairs).map Vbh)),(.sl ((((x.fpiece).fInline).fArgs).map Vay)),(.sl ((((x.fpiece).fInline).fCites).map Vbj)),(.sl ((((x.fpiece).fInline).fKids).map Va3)),(vS ((x.fpiece).fChar)),(vI ((x.fpiece).fN)),(vB ((x.fpiece).fOpen)),(vB ((x.fpiece).fClose)),(vB ((x.fpiece).fImage)),(vI ((x.fpiece).fAt)),(vI ((x.fpiece).fTo)),(vB x.fimage),(vI x.freferences)]
def Vq8(x:DElem):AV:=.agg [(vI x.fkind),(vI ((x.fpiece).fKind)),(vI (((x.fpiece).fInline).fKind)),(vS (((x.fpiece).fInline).fText)),(vS (((x.fpiece).fInline).fDest)),(vS (((x.fpiece).fInline).fTitle)),(vS ((((x.fpiece).fInline).fAttr).fID)),(.sl (((((x.fpiece).fInline).fAttr).fClasses).map Vay)),(.sl (((((x.fpiece).fInline).fAttr).fPairs).map Vbh)),(.sl ((((x.fpiece).fInline).fArgs).map Vay)),(.sl ((((x.fpiece).fInline).fCites).map Vbj)),(.sl ((((x.fpiece).fInline).fKids).map Va3)),(vS ((x.fpiece).fChar)),(vI ((x.fpiece).fN)),(vB ((x.fpiece).fOpen)),(vB ((x.fpiece).fClose)),(vB ((x.fpiece).fImage)),(vI ((x.fpiece).fAt)),(vI ((x.fpiece).fTo)),(vB x.fimage),(vI x.freferences)]
theorem Vhg(xs:List DElem)(i:Int)(h0:0<=i)(h:i<(xs.length:Int)):0<=i/\(xs.map Vb3)[i.toNat]? =some (Vb3 (el xs i.toNat)):=elxI rfl h0 h rfl
structure DEm where
 fin:DInline
 frun:Bool
 fpiece:Int
 fleft:Int
 fbefore:Int
 fnext:Int
instance:Inhabited DEm:=⟨⟨⟨0,⟨#[]⟩,⟨#[]⟩,⟨#[]⟩,⟨⟨#[]⟩,[],[]⟩,[],[],[]⟩,false,0,0,0,0⟩⟩
def aEm(x:DEm):AV:=.agg [(vI ((x.fin).fKind)),(vS ((x.fin).fText)),(vS ((x.fin).fDest)),(vS ((x.fin).fTitle)),(vS (((x.fin).fAttr).fID)),(.sl ((((x.fin).fAttr).fClasses).map Vay)),(.sl ((((x.fin).fAttr).fPairs).map Vbh)),(.sl (((x.fin).fArgs).map Vay)),(.sl (((x.fin).fCites).map Vbj)),(.sl (((x.fin).fKids).map Va3)),(vB x.frun),(vI x.fpiece),(vI x.fleft),(vI x.fbefore),(vI x.fnext)]
theorem aEm_eq(x:DEm):aEm x=.agg [(vI ((x.fin).fKind)),(vS ((x.fin).fText)),(vS ((x.fin).fDest)),(vS ((x.fin).fTitle)),(vS (((x.fin).fAttr).fID)),(.sl ((((x.fin).fAttr).fClasses).map Vay)),(.sl ((((x.fin).fAttr).fPairs).map Vbh)),(.sl (((x.fin).fArgs).map Vay)),(.sl (((x.fin).fCites).map Vbj)),(.sl (((x.fin).fKids).map Va3)),(vB x.frun),(vI x.fpiece),(vI x.fleft),(vI x.fbefore),(vI x.fnext)]:=rfl
def cEm(x:DEm):AV:=.agg [(vI ((x.fin).fKind)),(vS ((x.fin).fText)),(vS ((x.fin).fDest)),(vS ((x.fin).fTitle)),(vS (((x.fin).fAttr).fID)),(.sl ((((x.fin).fAttr).fClasses).map Vay)),(.sl ((((x.fin).fAttr).fPairs).map Vbh)),(.sl (((x.fin).fArgs).map Vay)),(.sl (((x.fin).fCites).map Vbj)),(.sl (((x.fin).fKids).map Va3)),(vB x.frun),(vI x.fpiece),(vI x.fleft),(vI x.fbefore),(vI x.fnext)]
def sEm(x:DEm):List SV:=[(jI ((x.fin).fKind)),(jS ((x.fin).fText)),(jS ((x.fin).fDest)),(jS ((x.fin).fTitle)),(jS (((x.fin).fAttr).fID)),(jL ((((x.fin).fAttr).fClasses).map Vay)),(jL ((((x.fin).fAttr).fPairs).map Vbh)),(jL (((x.fin).fArgs).map Vay)),(jL (((x.fin).fCites).map Vbj)),(jL (((x.fin).fKids).map Va3)),(jB x.frun),(jI x.fpiece),(jI x.fleft),(jI x.fbefore),(jI x.fnext)]
theorem Vcc(xs:List DEm)(i:Int)(h0:0<=i)(h:i<(xs.length:Int)):0<=i/\(xs.map aEm)[i.toNat]? =some (aEm (el xs i.toNat)):=elxI rfl h0 h rfl
theorem Vag(s:ByteArray)(i j:Nat):(ByteArray.extract s i j).size=min j s.size-i:=by simp
def letA(b:Int):Bool:=cond (cond (decide ((b:Int)>=97)) (decide ((b:Int)<=122)) false) true (cond (decide ((b:Int)>=65)) (decide ((b:Int)<=90)) false)
theorem letA_to(b:Int):Va2 Tryz.prog 226 [(.av (.val (.int .u8 b)))] [] [] (jB (letA b)) [] []:=by
 refine BEG (λr:Bool=>(jB r)) (letA b) Tryz.func226 kx ?_;refine UF (letA.eq_1 ..) ?_;refine GO (tn 4 (kj (decide ((b:Int)>=97)) (tn 2 z) z (tn 1 (kj (cond (decide ((b:Int)>=97)) (decide ((b:Int)<=122)) false) z (tn 3 (kj (decide ((b:Int)>=65)) (tn 2 z) z z)) (tn 1 z))))) kx ?_;exact EN kx
def inN(b:Int):Bool:=cond (cond ((b:Int)==45) ((b:Int)==45) (cond ((b:Int)==95) ((b:Int)==95) (cond ((b:Int)==46) ((b:Int)==46) ((b:Int)==58)))) true (cond (letA b) true (cond (decide ((b:Int)>=48)) (decide ((b:Int)<=57)) false))
theorem inN_to(b:Int):Va2 Tryz.prog 270 [(.av (.val (.int .u8 b)))] [] [] (jB (inN b)) [] []:=by
 refine BEG (λr:Bool=>(jB r)) (inN b) Tryz.func270 kx ?_;refine UF (inN.eq_1 ..) ?_;refine GO (tn 4 (ks ((b:Int)==45) [4] z (tn 2 (ks ((b:Int)==95) [4] z (tn 2 (ks ((b:Int)==46) [4] z (tn 2 z) z)) z)) z)) kx ?_;refine CS (λh1=>?_) (λh1=>?_)
 ·refine GO (kb h1 (tn 1 z)) kx ?_;exact EN kx
 ·refine GO (kb h1 (tn 1 (kc (letA_to b) (tn 1 (kj (letA b) z (tn 3 (kj (decide ((b:Int)>=48)) (tn 2 z) z z)) (tn 1 z)))))) kx ?_;exact EN kx
def wrdA_L0(s:ByteArray)(i:Int):Nat->Int->Int
 |0,_=>default
 |n0+1,v1=>cond (cond (decide ((v1:Int)<((Zc s:Nat):Int))) (inN ((byt s (Int.toNat v1):Nat):Int)) false) (wrdA_L0 s i n0 (v1+1)) v1
def wrdA(s:ByteArray)(i:Int):Int:=wrdA_L0 s i ((s.size-Int.toNat i)+1) i
theorem wrdA_to(s:ByteArray)(i:Int)(hs:s.size<=1073741824)(h0:0<=i)(h1:i<=1073741833):Va2 Tryz.prog 227 [(jS s),(jI i)] [] [] (jI (wrdA s i)) [] []:=by
 refine BEG (λr:Int=>(jI r)) (wrdA s i) Tryz.func227 kx ?_;refine UF (wrdA.eq_1 ..) ?_;refine GO (tn 1 z) kx ?_;refine LP (λN M S=>∃ v1:Int,(0<=v1)/\(v1<=1073741833)/\(s.size-Int.toNat v1<N)/\M=wrdA_L0 s i N v1/\S=(sx 18 [(0,(jS s)),(1,(jI v1))] [] [])) kx ⟨_,by first|omega|assumption|(simp only[Va6];omega)|(simp;done)|(simp;omega),by first|omega|assumption|(simp only[Va6];omega)|(simp;done)|(simp;omega),by omega,rfl,rfl⟩ (WK kx) ?_;rintro n0 M S ⟨v1,hv,hb,hF0,rfl,rfl⟩;obtain⟨n0,rfl⟩:∃ k,n0=k+1:=⟨n0-1,by omega⟩
 refine UF (wrdA_L0.eq_2 ..) ?_;refine GO (tn 5 (kj (decide ((v1:Int)<((Zc s:Nat):Int))) (tn 2 (hp (λh=>by have j0:=h.2;have j0p:=of_decide_eq_true j0;exact(ib s v1 kv)) (hc (λh=>by have j0:=h.2;have j0p:=of_decide_eq_true j0;exact(inN_to ((byt s (Int.toNat v1):Nat):Int))) z))) z z)) kx ?_;refine CS (λh1=>?_) (λh1=>?_)
 ·obtain⟨h1a,h1o⟩:=Va9 h1
  have h1ap:=of_decide_eq_true h1a;refine GO (kb h1 (tn 1 (kn (wrE (v1+1) (v1+1) kv) (tn 1 z)))) kx ?_;exact AG ⟨_,by first|omega|assumption|(simp only[Va6];omega)|(simp;done)|(simp;omega),by first|omega|assumption|(simp only[Va6];omega)|(simp;done)|(simp;omega),by omega,rfl,rfl⟩ (WK kx) kx (Z0 _)
 ·refine GO (kb h1 z) kx ?_;refine OUT (tn 2 z) kx ?_;exact EN kx
def namA(s:ByteArray):Bool:=cond (cond (cond (((Zc s:Nat):Int)==0) true (decide (((Zc s:Nat):Int)>60))) true (!letA ((byt s 0:Nat):Int))) false ((wrdA s 0:Int)==((Zc s:Nat):Int))
theorem Vic(s:ByteArray)(hs:s.size<=1073741824):Va2 Tryz.prog 174 [(jS s)] [] [] (jB (namA s)) [] []:=by
 refine BEG (λr:Bool=>(jB r)) (namA s) Tryz.func174 kx ?_;refine UF (namA.eq_1 ..) ?_;refine GO (tn 5 (kj (((Zc s:Nat):Int)==0) z (tn 3 z) (tn 1 (kj (cond (((Zc s:Nat):Int)==0) true (decide (((Zc s:Nat):Int)>60))) z (tn 1 (hp (λh=>by have j0:=h.2;obtain⟨j0a,j0o⟩:=Vae j0;have j0ap:=ne_of_beq_false j0a;have j0op:=of_decide_eq_false j0o;exact(ib s 0 kv)) (hc (λh=>by have j0:=h.2;obtain⟨j0a,j0o⟩:=Vae j0;have j0ap:=ne_of_beq_false j0a;have j0op:=of_decide_eq_false j0o;exact(letA_to ((byt s 0:Nat):Int))) (tn 1 z)))) z)))) kx ?_;refine CS (λh1=>?_) (λh1=>?_)
 ·refine GO (kb h1 (tn 1 z)) kx ?_;exact EN kx
 ·obtain⟨h1a,h1o⟩:=Vae h1;obtain⟨h1aa,h1ao⟩:=Vae h1a
  have h1aap:=ne_of_beq_false h1aa
  have h1aop:=of_decide_eq_false h1ao
  have h1on:=notf h1o;refine GO (kb h1 (tn 1 (kc (wrdA_to s 0 ky ky ky) (tn 4 z)))) kx ?_;exact EN kx
def spcC(c:Int):Bool:=cond ((c:Int)==32) true ((c:Int)==10)
theorem Vn3(c:Int):Va2 Tryz.prog 236 [(jI c)] [] [] (jB (spcC c)) [] []:=by
 refine BEG (λr:Bool=>(jB r)) (spcC c) Tryz.func236 kx ?_;refine UF (spcC.eq_1 ..) ?_;refine GO (tn 4 (kj ((c:Int)==32) z (tn 2 z) (tn 1 z))) kx ?_;exact EN kx
def digC(c:Int):Bool:=cond (decide ((c:Int)>=48)) (decide ((c:Int)<=57)) false
theorem Vnx(c:Int):Va2 Tryz.prog 183 [(jI c)] [] [] (jB (digC c)) [] []:=by
 refine BEG (λr:Bool=>(jB r)) (digC c) Tryz.func183 kx ?_;refine UF (digC.eq_1 ..) ?_;refine GO (tn 4 (kj (decide ((c:Int)>=48)) (tn 2 z) z (tn 1 z))) kx ?_;exact EN kx
def pncC(c:Int):Bool:=cond (cond (cond (decide ((c:Int)>=33)) (decide ((c:Int)<=47)) false) (cond (decide ((c:Int)>=33)) (decide ((c:Int)<=47)) false) (cond (cond (decide ((c:Int)>=58)) (decide ((c:Int)<=64)) false) (cond (decide ((c:Int)>=58)) (decide ((c:Int)<=64)) false) (cond (cond (decide ((c:Int)>=91)) (decide ((c:Int)<=96)) false) (cond (decide ((c:Int)>=91)) (decide ((c:Int)<=96)) false) (cond (decide ((c:Int)>=123)) (decide ((c:Int)<=126)) false)))) true (cond (cond (cond (decide ((c:Int)>=161)) (decide ((c:Int)<=169)) false) (cond (decide ((c:Int)>=161)) (decide ((c:Int)<=169)) false) (cond (cond (decide ((c:Int)>=171)) (decide ((c:Int)<=180)) false) (cond (decide ((c:Int)>=171)) (decide ((c:Int)<=180)) false) (cond (cond (decide ((c:Int)>=182)) (decide ((c:Int)<=185)) false) (cond (decide ((c:Int)>=182)) (decide ((c:Int)<=185)) false) (cond (decide ((c:Int)>=187)) (decide ((c:Int)<=191)) false)))) true (cond (cond ((c:Int)==215) ((c:Int)==215) ((c:Int)==247)) true (cond (cond (cond (decide ((c:Int)>=8208)) (decide ((c:Int)<=8231)) false) (cond (decide ((c:Int)>=8208)) (decide ((c:Int)<=8231)) false) (cond (cond (decide ((c:Int)>=8240)) (decide ((c:Int)<=8286)) false) (cond (decide ((c:Int)>=8240)) (decide ((c:Int)<=8286)) false) (cond (decide ((c:Int)>=12289)) (decide ((c:Int)<=12291)) false))) true false)))
theorem Vfg(c:Int):Va2 Tryz.prog 181 [(jI c)] [] [] (jB (pncC c)) [] []:=by
 refine BEG (λr:Bool=>(jB r)) (pncC c) Tryz.func181 kx ?_;refine UF (pncC.eq_1 ..) ?_;refine GO (tn 4 (kj (decide ((c:Int)>=33)) (tn 2 z) z (tn 1 (ks (cond (decide ((c:Int)>=33)) (decide ((c:Int)<=47)) false) [3] z (tn 3 (kj (decide ((c:Int)>=58)) (tn 2 z) z (tn 1 (ks (cond (decide ((c:Int)>=58)) (decide ((c:Int)<=64)) false) [3] z (tn 3 (kj (decide ((c:Int)>=91)) (tn 2 z) z (tn 1 (ks (cond (decide ((c:Int)>=91)) (decide ((c:Int)<=96)) false) [3] z (tn 3 (kj (decide ((c:Int)>=123)) (tn 2 z) z (tn 1 z))) z)))) z)))) z)))) kx ?_;refine CS (λh1=>?_) (λh1=>?_)
 ·refine GO (kb h1 (tn 1 z)) kx ?_;exact EN kx
 ·refine GO (kb h1 (tn 3 (kj (decide ((c:Int)>=161)) (tn 2 z) z (tn 1 (ks (cond (decide ((c:Int)>=161)) (decide ((c:Int)<=169)) false) [28] z (tn 3 (kj (decide ((c:Int)>=171)) (tn 2 z) z (tn 1 (ks (cond (decide ((c:Int)>=171)) (decide ((c:Int)<=180)) false) [28] z (tn 3 (kj (decide ((c:Int)>=182)) (tn 2 z) z (tn 1 (ks (cond (decide ((c:Int)>=182)) (decide ((c:Int)<=185)) false) [28] z (tn 3 (kj (decide ((c:Int)>=187)) (tn 2 z) z (tn 1 z))) z)))) z)))) z))))) kx ?_;refine CS (λh2=>?_) (λh2=>?_)
  ·refine GO (kb h2 (tn 1 z)) kx ?_;exact EN kx
  ·refine GO (kb h2 (tn 3 (ks ((c:Int)==215) [53] z (tn 3 z) z))) kx ?_;refine CS (λh3=>?_) (λh3=>?_)
   ·refine GO (kb h3 (tn 1 z)) kx ?_;exact EN kx
   ·refine GO (kb h3 (tn 3 (kj (decide ((c:Int)>=8208)) (tn 2 z) z (tn 1 (ks (cond (decide ((c:Int)>=8208)) (decide ((c:Int)<=8231)) false) [58] z (tn 3 (kj (decide ((c:Int)>=8240)) (tn 2 z) z (tn 1 (ks (cond (decide ((c:Int)>=8240)) (decide ((c:Int)<=8286)) false) [58] z (tn 3 (kj (decide ((c:Int)>=12289)) (tn 2 z) z (tn 1 z))) z)))) z))))) kx ?_;refine CS (λh4=>?_) (λh4=>?_)
    ·refine GO (kb h4 (tn 1 z)) kx ?_;exact EN kx
    ·refine GO (kb h4 (tn 1 z)) kx ?_;exact EN kx
def letL(c:Int):Bool:=cond (cond (cond (decide ((c:Int)>=65)) (decide ((c:Int)<=90)) false) (cond (decide ((c:Int)>=65)) (decide ((c:Int)<=90)) false) (cond (cond (decide ((c:Int)>=97)) (decide ((c:Int)<=122)) false) (cond (decide ((c:Int)>=97)) (decide ((c:Int)<=122)) false) (cond ((c:Int)==170) ((c:Int)==170) (cond ((c:Int)==181) ((c:Int)==181) ((c:Int)==186))))) true (cond (cond (cond (decide ((c:Int)>=192)) (decide ((c:Int)<=214)) false) (cond (decide ((c:Int)>=192)) (decide ((c:Int)<=214)) false) (cond (cond (decide ((c:Int)>=216)) (decide ((c:Int)<=246)) false) (cond (decide ((c:Int)>=216)) (decide ((c:Int)<=246)) false) (cond (decide ((c:Int)>=248)) (decide ((c:Int)<=687)) false))) true (cond (cond (cond (decide ((c:Int)>=880)) (decide ((c:Int)<=1327)) false) (cond (decide ((c:Int)>=880)) (decide ((c:Int)<=1327)) false) (cond (cond (decide ((c:Int)>=4256)) (decide ((c:Int)<=4351)) false) (cond (decide ((c:Int)>=4256)) (decide ((c:Int)<=4351)) false) (cond (decide ((c:Int)>=7680)) (decide ((c:Int)<=8191)) false))) true (cond (cond (cond (decide ((c:Int)>=12353)) (decide ((c:Int)<=12538)) false) (cond (decide ((c:Int)>=12353)) (decide ((c:Int)<=12538)) false) (cond (cond (decide ((c:Int)>=19968)) (decide ((c:Int)<=40959)) false) (cond (decide ((c:Int)>=19968)) (decide ((c:Int)<=40959)) false) (cond (decide ((c:Int)>=44032)) (decide ((c:Int)<=55203)) false))) true false)))
theorem letL_to(c:Int):Va2 Tryz.prog 225 [(jI c)] [] [] (jB (letL c)) [] []:=by
 refine BEG (λr:Bool=>(jB r)) (letL c) Tryz.func225 kx ?_;refine UF (letL.eq_1 ..) ?_;refine GO (tn 4 (kj (decide ((c:Int)>=65)) (tn 2 z) z (tn 1 (ks (cond (decide ((c:Int)>=65)) (decide ((c:Int)<=90)) false) [3] z (tn 3 (kj (decide ((c:Int)>=97)) (tn 2 z) z (tn 1 (ks (cond (decide ((c:Int)>=97)) (decide ((c:Int)<=122)) false) [3] z (tn 3 (ks ((c:Int)==170) [3] z (tn 3 (ks ((c:Int)==181) [3] z (tn 3 z) z)) z)) z)))) z)))) kx ?_;refine CS (λh1=>?_) (λh1=>?_)
 ·refine GO (kb h1 (tn 1 z)) kx ?_;exact EN kx
 ·refine GO (kb h1 (tn 3 (kj (decide ((c:Int)>=192)) (tn 2 z) z (tn 1 (ks (cond (decide ((c:Int)>=192)) (decide ((c:Int)<=214)) false) [22] z (tn 3 (kj (decide ((c:Int)>=216)) (tn 2 z) z (tn 1 (ks (cond (decide ((c:Int)>=216)) (decide ((c:Int)<=246)) false) [22] z (tn 3 (kj (decide ((c:Int)>=248)) (tn 2 z) z (tn 1 z))) z)))) z))))) kx ?_;refine CS (λh2=>?_) (λh2=>?_)
  ·refine GO (kb h2 (tn 1 z)) kx ?_;exact EN kx
  ·refine GO (kb h2 (tn 3 (kj (decide ((c:Int)>=880)) (tn 2 z) z (tn 1 (ks (cond (decide ((c:Int)>=880)) (decide ((c:Int)<=1327)) false) [41] z (tn 3 (kj (decide ((c:Int)>=4256)) (tn 2 z) z (tn 1 (ks (cond (decide ((c:Int)>=4256)) (decide ((c:Int)<=4351)) false) [41] z (tn 3 (kj (decide ((c:Int)>=7680)) (tn 2 z) z (tn 1 z))) z)))) z))))) kx ?_;refine CS (λh3=>?_) (λh3=>?_)
   ·refine GO (kb h3 (tn 1 z)) kx ?_;exact EN kx
   ·refine GO (kb h3 (tn 3 (kj (decide ((c:Int)>=12353)) (tn 2 z) z (tn 1 (ks (cond (decide ((c:Int)>=12353)) (decide ((c:Int)<=12538)) false) [60] z (tn 3 (kj (decide ((c:Int)>=19968)) (tn 2 z) z (tn 1 (ks (cond (decide ((c:Int)>=19968)) (decide ((c:Int)<=40959)) false) [60] z (tn 3 (kj (decide ((c:Int)>=44032)) (tn 2 z) z (tn 1 z))) z)))) z))))) kx ?_;refine CS (λh4=>?_) (λh4=>?_)
    ·refine GO (kb h4 (tn 1 z)) kx ?_;exact EN kx
    ·refine GO (kb h4 (tn 1 z)) kx ?_;exact EN kx
def lowC(c:Int):Int:=cond (cond (decide ((c:Int)>=65)) (decide ((c:Int)<=90)) false) (c+32) (cond (cond (cond (decide ((c:Int)>=192)) (decide ((c:Int)<=222)) false) ((c:Int) !=215) false) (c+32) (cond (cond (cond (decide ((c:Int)>=913)) (decide ((c:Int)<=939)) false) ((c:Int) !=930) false) (c+32) (cond (cond (decide ((c:Int)>=1040)) (decide ((c:Int)<=1071)) false) (c+32) (cond (cond (decide ((c:Int)>=1024)) (decide ((c:Int)<=1039)) false) (c+80) c))))
theorem lowC_to(c:Int)(h0: -1000000000<=c)(h1:c<=1000000000):Va2 Tryz.prog 269 [(jI c)] [] [] (jI (lowC c)) [] []:=by
 refine BEG (λr:Int=>(jI r)) (lowC c) Tryz.func269 kx ?_;refine UF (lowC.eq_1 ..) ?_;refine GO (tn 4 (kj (decide ((c:Int)>=65)) (tn 2 z) z (tn 1 z))) kx ?_;refine CS (λh1=>?_) (λh1=>?_)
 ·obtain⟨h1a,h1o⟩:=Va9 h1
  have h1ap:=of_decide_eq_true h1a
  have h1op:=of_decide_eq_true h1o;refine GO (kb h1 (tn 1 (kn (wrE (c+32) (c+32) kv) (tn 1 z)))) kx ?_;exact EN kx
 ·refine GO (kb h1 (tn 3 (kj (decide ((c:Int)>=192)) (tn 2 z) z (tn 1 (kj (cond (decide ((c:Int)>=192)) (decide ((c:Int)<=222)) false) (tn 2 z) z (tn 1 z)))))) kx ?_;refine CS (λh2=>?_) (λh2=>?_)
  ·obtain⟨h2a,h2o⟩:=Va9 h2;obtain⟨h2aa,h2ao⟩:=Va9 h2a
   have h2aap:=of_decide_eq_true h2aa
   have h2aop:=of_decide_eq_true h2ao
   have h2op:=bne_iff_ne.1 h2o;refine GO (kb h2 (tn 1 (kn (wrE (c+32) (c+32) kv) (tn 1 z)))) kx ?_;exact EN kx
  ·refine GO (kb h2 (tn 3 (kj (decide ((c:Int)>=913)) (tn 2 z) z (tn 1 (kj (cond (decide ((c:Int)>=913)) (decide ((c:Int)<=939)) false) (tn 2 z) z (tn 1 z)))))) kx ?_;refine CS (λh3=>?_) (λh3=>?_)
   ·obtain⟨h3a,h3o⟩:=Va9 h3;obtain⟨h3aa,h3ao⟩:=Va9 h3a
    have h3aap:=of_decide_eq_true h3aa
    have h3aop:=of_decide_eq_true h3ao
    have h3op:=bne_iff_ne.1 h3o;refine GO (kb h3 (tn 1 (kn (wrE (c+32) (c+32) kv) (tn 1 z)))) kx ?_;exact EN kx
   ·refine GO (kb h3 (tn 3 (kj (decide ((c:Int)>=1040)) (tn 2 z) z (tn 1 z)))) kx ?_;refine CS (λh4=>?_) (λh4=>?_)
    ·obtain⟨h4a,h4o⟩:=Va9 h4
     have h4ap:=of_decide_eq_true h4a
     have h4op:=of_decide_eq_true h4o;refine GO (kb h4 (tn 1 (kn (wrE (c+32) (c+32) kv) (tn 1 z)))) kx ?_;exact EN kx
    ·refine GO (kb h4 (tn 3 (kj (decide ((c:Int)>=1024)) (tn 2 z) z (tn 1 z)))) kx ?_;refine CS (λh5=>?_) (λh5=>?_)
     ·obtain⟨h5a,h5o⟩:=Va9 h5
      have h5ap:=of_decide_eq_true h5a
      have h5op:=of_decide_eq_true h5o;refine GO (kb h5 (tn 1 (kn (wrE (c+80) (c+80) kv) (tn 1 z)))) kx ?_;exact EN kx
     ·refine GO (kb h5 (tn 2 z)) kx ?_;exact EN kx
def uncB(c:Int):Bool:=cond (cond (decide ((c:Int)<32)) ((c:Int) !=10) false) true ((c:Int)==127)
theorem uncB_to(c:Int):Va2 Tryz.prog 222 [(jI c)] [] [] (jB (uncB c)) [] []:=by
 refine BEG (λr:Bool=>(jB r)) (uncB c) Tryz.func222 kx ?_;refine UF (uncB.eq_1 ..) ?_;refine GO (tn 4 (kj (decide ((c:Int)<32)) (tn 2 z) z (tn 1 (kj (cond (decide ((c:Int)<32)) ((c:Int) !=10) false) z (tn 2 z) (tn 1 z))))) kx ?_;exact EN kx
def wdtI(b:Int):Int:=cond (decide ((b:Int)<128)) 1 (cond (cond (decide ((b:Int)>=194)) (decide ((b:Int)<=223)) false) 2 (cond (cond (decide ((b:Int)>=224)) (decide ((b:Int)<=239)) false) 3 (cond (cond (decide ((b:Int)>=240)) (decide ((b:Int)<=244)) false) 4 0)))
theorem wdtI_to(b:Int):Va2 Tryz.prog 192 [(.av (.val (.int .u8 b)))] [] [] (jI (wdtI b)) [] []:=by
 refine BEG (λr:Int=>(jI r)) (wdtI b) Tryz.func192 kx ?_;refine UF (wdtI.eq_1 ..) ?_;refine GO (tn 4 z) kx ?_;refine CSd (λh1p h1=>?_) (λh1p h1=>?_)
 ·refine GO (kb h1 (tn 1 z)) kx ?_;exact EN kx
 ·refine GO (kb h1 (tn 3 (kj (decide ((b:Int)>=194)) (tn 2 z) z (tn 1 z)))) kx ?_;refine CS (λh2=>?_) (λh2=>?_)
  ·obtain⟨h2a,h2o⟩:=Va9 h2
   have h2ap:=of_decide_eq_true h2a
   have h2op:=of_decide_eq_true h2o;refine GO (kb h2 (tn 1 z)) kx ?_;exact EN kx
  ·refine GO (kb h2 (tn 3 (kj (decide ((b:Int)>=224)) (tn 2 z) z (tn 1 z)))) kx ?_;refine CS (λh3=>?_) (λh3=>?_)
   ·obtain⟨h3a,h3o⟩:=Va9 h3
    have h3ap:=of_decide_eq_true h3a
    have h3op:=of_decide_eq_true h3o;refine GO (kb h3 (tn 1 z)) kx ?_;exact EN kx
   ·refine GO (kb h3 (tn 3 (kj (decide ((b:Int)>=240)) (tn 2 z) z (tn 1 z)))) kx ?_;refine CS (λh4=>?_) (λh4=>?_)
    ·obtain⟨h4a,h4o⟩:=Va9 h4
     have h4ap:=of_decide_eq_true h4a
     have h4op:=of_decide_eq_true h4o;refine GO (kb h4 (tn 1 z)) kx ?_;exact EN kx
    ·refine GO (kb h4 (tn 1 z)) kx ?_;exact EN kx
def empA(a:DAttr):Bool:=cond (cond (eqs a.fID (⟨#[]⟩)) (((lenM Vay a.fClasses:Nat):Int)==0) false) (((lenM Vbh a.fPairs:Nat):Int)==0) false
theorem empA_to(a:DAttr)(ha:Vgw a<=1073741824):Va2 Tryz.prog 118 [(.av (cAttr a))] [] [] (jB (empA a)) [] []:=by
 have hwa:=Vfy a;simp only[wStr]at hwa
 have hw_0:=Vd8 (w:=wStr) wStr_pos a.fClasses
 have hw_1:=Vd8 (w:=Vmt) Vof a.fPairs;refine BEG (λr:Bool=>(jB r)) (empA a) Tryz.func118 kx ?_;refine UF (empA.eq_1 ..) ?_;refine GO (tn 6 (kj (eqs a.fID (⟨#[]⟩)) (tn 4 z) z (tn 1 (kj (cond (eqs a.fID (⟨#[]⟩)) (((lenM Vay a.fClasses:Nat):Int)==0) false) (tn 4 z) z (tn 1 z))))) kx ?_;exact EN kx
def skpS_L0(s:ByteArray)(i:Int):Nat->Int->Int
 |0,_=>default
 |n0+1,v1=>cond (cond (decide ((v1:Int)<((Zc s:Nat):Int))) (((byt s (Int.toNat v1):Nat):Int)==32) false) (skpS_L0 s i n0 (v1+1)) v1
def skpS(s:ByteArray)(i:Int):Int:=skpS_L0 s i ((s.size-Int.toNat i)+1) i
theorem Vk2(s:ByteArray)(i:Int)(hs:s.size<=1073741824)(h0:0<=i)(h1:i<=1073741833):Va2 Tryz.prog 133 [(jS s),(jI i)] [] [] (jI (skpS s i)) [] []:=by
 refine BEG (λr:Int=>(jI r)) (skpS s i) Tryz.func133 kx ?_;refine UF (skpS.eq_1 ..) ?_;refine GO (tn 1 z) kx ?_;refine LP (λN M S=>∃ v1:Int,(0<=v1)/\(v1<=1073741833)/\(s.size-Int.toNat v1<N)/\M=skpS_L0 s i N v1/\S=(sx 18 [(0,(jS s)),(1,(jI v1))] [] [])) kx ⟨_,by first|omega|assumption|(simp only[Va6];omega)|(simp;done)|(simp;omega),by first|omega|assumption|(simp only[Va6];omega)|(simp;done)|(simp;omega),by omega,rfl,rfl⟩ (WK kx) ?_;rintro n0 M S ⟨v1,hv,hb,hF0,rfl,rfl⟩;obtain⟨n0,rfl⟩:∃ k,n0=k+1:=⟨n0-1,by omega⟩
 refine UF (skpS_L0.eq_2 ..) ?_;refine GO (tn 5 (kj (decide ((v1:Int)<((Zc s:Nat):Int))) (tn 2 (hp (λh=>by have j0:=h.2;have j0p:=of_decide_eq_true j0;exact(ib s v1 kv)) (tn 1 z))) z z)) kx ?_;refine CS (λh1=>?_) (λh1=>?_)
 ·obtain⟨h1a,h1o⟩:=Va9 h1
  have h1ap:=of_decide_eq_true h1a
  have h1op:=eq_of_beq h1o;refine GO (kb h1 (tn 1 (kn (wrE (v1+1) (v1+1) kv) (tn 1 z)))) kx ?_;exact AG ⟨_,by first|omega|assumption|(simp only[Va6];omega)|(simp;done)|(simp;omega),by first|omega|assumption|(simp only[Va6];omega)|(simp;done)|(simp;omega),by omega,rfl,rfl⟩ (WK kx) kx (Z0 _)
 ·refine GO (kb h1 z) kx ?_;refine OUT (tn 2 z) kx ?_;exact EN kx
def litP(s:ByteArray)(i:Int)(e:Int):DPiece:=DPiece.mk 0 (DInline.mk 1 (ByteArray.extract s (Int.toNat i) (Int.toNat e)) (⟨#[]⟩) (⟨#[]⟩) (DAttr.mk (⟨#[]⟩) ([]) ([])) ([]) ([]) ([])) (⟨#[]⟩) 0 false false false 0 e
theorem Vci(s:ByteArray)(i:Int)(e:Int)(hs:s.size<=1073741824)(h0:0<=i)(h1:i<=e)(h2:e<=s.size):Va2 Tryz.prog 134 [(jS s),(jI i),(jI e)] [] [] (.av (Vbo (litP s i e))) [] []:=by
 refine BEG (λr:DPiece=>(.av (Vbo r))) (litP s i e) Tryz.func134 kx ?_;refine UF (litP.eq_1 ..) ?_
 have:=Vag s (Int.toNat i) (Int.toNat e);refine GO (tn 4 (kp (show 0<=(i:Int)/\(i:Int)<=e/\e<=((Zc s:Nat):Int)from(by first|omega|(simp only[Va6,true_and];omega))) (tn 4 z))) kx ?_;exact EN kx
def sndI(b:Int):(Int×Int):=cond ((b:Int)==224) (160,191) (cond ((b:Int)==237) (128,159) (cond ((b:Int)==240) (144,191) (cond ((b:Int)==244) (128,143) (128,191))))
theorem sndI_to(b:Int):Va2 Tryz.prog 193 [(.av (.val (.int .u8 b)))] [] [] (.av (.tup [(.val (.int .u8 ((sndI b).1))),(.val (.int .u8 ((sndI b).2)))])) [] []:=by
 refine BEG (λr:(Int×Int)=>(.av (.tup [(.val (.int .u8 r.1)),(.val (.int .u8 r.2))]))) (sndI b) Tryz.func193 kx ?_;refine UF (sndI.eq_1 ..) ?_;refine GO (tn 5 z) kx ?_;refine CSe (λh1p h1=>?_) (λh1p h1=>?_)
 ·refine GO (kb h1 (tn 2 z)) kx ?_;exact EN kx
 ·refine GO (kb h1 (tn 2 z)) kx ?_;refine CSe (λh2p h2=>?_) (λh2p h2=>?_)
  ·refine GO (kb h2 (tn 2 z)) kx ?_;exact EN kx
  ·refine GO (kb h2 (tn 2 z)) kx ?_;refine CSe (λh3p h3=>?_) (λh3p h3=>?_)
   ·refine GO (kb h3 (tn 2 z)) kx ?_;exact EN kx
   ·refine GO (kb h3 (tn 2 z)) kx ?_;refine CSe (λh4p h4=>?_) (λh4p h4=>?_)
    ·refine GO (kb h4 (tn 2 z)) kx ?_;exact EN kx
    ·refine GO (kb h4 (tn 2 z)) kx ?_;exact EN kx
def isrP(p:DPiece):Bool:=cond ((p.fKind:Int) !=1) false (cond (cond (eqs p.fChar (⟨#[42]⟩)) (eqs p.fChar (⟨#[42]⟩)) (eqs p.fChar (⟨#[95]⟩))) (cond (decide ((p.fN:Int)>=1)) (decide ((p.fN:Int)<=262144)) false) (cond (eqs p.fChar (⟨#[126]⟩)) ((p.fN:Int)==2) false))
theorem isrP_to(p:DPiece):Va2 Tryz.prog 198 [(.av (Vbo p))] [] [] (jB (isrP p)) [] []:=by
 refine BEG (λr:Bool=>(jB r)) (isrP p) Tryz.func198 kx ?_;refine UF (isrP.eq_1 ..) ?_;refine GO (tn 5 z) kx ?_;refine CSn (λh1p h1=>?_) (λh1p h1=>?_)
 ·refine GO (kb h1 (tn 1 z)) kx ?_;exact EN kx
 ·refine GO (kb h1 (tn 4 (ks (eqs p.fChar (⟨#[42]⟩)) [8] z (tn 2 z) z))) kx ?_;refine CS (λh2=>?_) (λh2=>?_)
  ·refine GO (kb h2 (tn 4 (kj (decide ((p.fN:Int)>=1)) (tn 3 z) z (tn 1 z)))) kx ?_;exact EN kx
  ·refine GO (kb h2 (tn 2 z)) kx ?_;refine CS (λh3=>?_) (λh3=>?_)
   ·refine GO (kb h3 (tn 4 z)) kx ?_;exact EN kx
   ·refine GO (kb h3 (tn 1 z)) kx ?_;exact EN kx
def sgnI(image:Bool):ByteArray:=cond image (⟨#[33,91]⟩) (⟨#[91]⟩)
theorem sgnI_to(image:Bool):Va2 Tryz.prog 54 [(jB image)] [] [] (jS (sgnI image)) [] []:=by
 refine BEG (λr:ByteArray=>(jS r)) (sgnI image) Tryz.func54 kx ?_;refine UF (sgnI.eq_1 ..) ?_;refine GO (tn 2 z) kx ?_;refine CS (λh1=>?_) (λh1=>?_)
 ·refine GO (kb h1 (tn 1 z)) kx ?_;exact EN kx
 ·refine GO (kb h1 (tn 1 z)) kx ?_;exact EN kx
def runE_L0(s:ByteArray)(i:Int):Nat->Int->Int
 |0,_=>default
 |n0+1,v5=>cond (decide ((v5:Int)<((Zc s:Nat):Int))) (cond (((byt s (Int.toNat v5):Nat):Int)==((byt s (Int.toNat i):Nat):Int)) (runE_L0 s i n0 (v5+1)) v5) v5
def runE(s:ByteArray)(i:Int):Int:=runE_L0 s i ((s.size-Int.toNat i)+1) i
theorem Vk4(s:ByteArray)(i:Int)(hs:s.size<=1073741824)(h0:0<=i)(h1:i<s.size):Va2 Tryz.prog 130 [(jS s),(jI i)] [] [] (jI (runE s i)) [] []:=by
 refine BEG (λr:Int=>(jI r)) (runE s i) Tryz.func130 kx ?_;refine UF (runE.eq_1 ..) ?_;refine GO (tn 3 z) kx ?_;refine LP (λN M S=>∃ v5:Int,(i<=v5)/\(v5<=s.size)/\(s.size-Int.toNat v5<N)/\M=runE_L0 s i N v5/\S=(sx 23 [(0,(jS s)),(1,(jI i)),(5,(jI v5))] [] [])) kx ⟨_,by first|omega|assumption|(simp only[Va6];omega)|(simp;done)|(simp;omega),by first|omega|assumption|(simp only[Va6];omega)|(simp;done)|(simp;omega),by omega,rfl,rfl⟩ (WK kx) ?_;rintro n0 M S ⟨v5,hv,hb,hF0,rfl,rfl⟩;obtain⟨n0,rfl⟩:∃ k,n0=k+1:=⟨n0-1,by omega⟩
 refine UF (runE_L0.eq_2 ..) ?_;refine GO z kx ?_;refine CSd (λh1p h1=>?_) (λh1p h1=>?_)
 ·refine DR3 (tn 5 (ko (.b true) (kp (show decide ((v5:Int)<((Zc s:Nat):Int))=true from h1) (tn 1 (ko (.b true) (kp (show decide ((v5:Int)<((Zc s:Nat):Int))=true from h1) (tn 1 (ko (.b true) (kp (show decide ((v5:Int)<((Zc s:Nat):Int))=true from h1) (kp (show 0<=(v5:Int)/\(v5:Int)<((Zc s:Nat):Int)from(by first|omega|(simp only[Va6,true_and];omega))) (ko (.b true) (kp (show decide ((v5:Int)<((Zc s:Nat):Int))=true from h1) (tn 1 (ko (.b true) (kp (show decide ((v5:Int)<((Zc s:Nat):Int))=true from h1) (tn 1 (ko (.b true) (kp (show decide ((v5:Int)<((Zc s:Nat):Int))=true from h1) (kp (show 0<=(i:Int)/\(i:Int)<((Zc s:Nat):Int)from(by first|omega|(simp only[Va6,true_and];omega))) (ko (.b true) (kp (show decide ((v5:Int)<((Zc s:Nat):Int))=true from h1) (tn 1 (ko (.b true) (kp h1 z)))))))))))))))))))))))) kx kx kx ?_;refine CSe (λh2p h2=>?_) (λh2p h2=>?_)
  ·refine GO (kb h2 (tn 1 (kn (wrE (v5+1) (v5+1) kv) (tn 1 z)))) kx ?_;exact AG ⟨_,by first|omega|assumption|(simp only[Va6];omega)|(simp;done)|(simp;omega),by first|omega|assumption|(simp only[Va6];omega)|(simp;done)|(simp;omega),by omega,rfl,rfl⟩ (WK kx) kx (Z0 _)
  ·refine GO (kb h2 z) kx ?_;refine OUT (tn 2 z) kx ?_;exact EN kx
 ·refine DR3 (tn 5 (ko (.b false) (kp (show decide ((v5:Int)<((Zc s:Nat):Int))=false from h1) (ko (.b false) (kp (show decide ((v5:Int)<((Zc s:Nat):Int))=false from h1) (ko (.b false) (kp (show decide ((v5:Int)<((Zc s:Nat):Int))=false from h1) (ko (.b false) (kp (show decide ((v5:Int)<((Zc s:Nat):Int))=false from h1) (ko (.b false) (kp (show decide ((v5:Int)<((Zc s:Nat):Int))=false from h1) (ko (.b false) (kp (show decide ((v5:Int)<((Zc s:Nat):Int))=false from h1) (ko (.b false) (kp (show decide ((v5:Int)<((Zc s:Nat):Int))=false from h1) (ko (.b false) (kp h1 (kb ff z)))))))))))))))))) kx kx kx ?_;refine OUT (tn 2 z) kx ?_;exact EN kx
def nmeS_L0(s:ByteArray)(i:Int):Nat->Int->Int
 |0,_=>default
 |n0+1,v1=>cond (decide ((v1:Int)<((Zc s:Nat):Int))) (cond (cond (cond (cond (cond (cond (!cond (cond (decide (((byt s (Int.toNat v1):Nat):Int)>=97)) (decide (((byt s (Int.toNat v1):Nat):Int)<=122)) false) true (cond (decide (((byt s (Int.toNat v1):Nat):Int)>=65)) (decide (((byt s (Int.toNat v1):Nat):Int)<=90)) false)) (!digC (IntKind.i64.wrap ((byt s (Int.toNat v1):Nat):Int))) false) (((byt s (Int.toNat v1):Nat):Int) !=45) false) (((byt s (Int.toNat v1):Nat):Int) !=95) false) (((byt s (Int.toNat v1):Nat):Int) !=46) false) (((byt s (Int.toNat v1):Nat):Int) !=58) false) v1 (nmeS_L0 s i n0 (v1+1))) v1
def nmeS(s:ByteArray)(i:Int):Int:=nmeS_L0 s i ((s.size-Int.toNat i)+1) i
theorem Vnj(s:ByteArray)(i:Int)(hs:s.size<=1073741824)(h0:0<=i)(h1:i<=1073741833):Va2 Tryz.prog 188 [(jS s),(jI i)] [] [] (jI (nmeS s i)) [] []:=by
 refine BEG (λr:Int=>(jI r)) (nmeS s i) Tryz.func188 kx ?_;refine UF (nmeS.eq_1 ..) ?_;refine GO (tn 1 z) kx ?_;refine LP (λN M S=>∃ v1:Int,(0<=v1)/\(v1<=1073741833)/\(s.size-Int.toNat v1<N)/\M=nmeS_L0 s i N v1/\S=(sx 55 [(0,(jS s)),(1,(jI v1))] [] [])) kx ⟨_,by first|omega|assumption|(simp only[Va6];omega)|(simp;done)|(simp;omega),by first|omega|assumption|(simp only[Va6];omega)|(simp;done)|(simp;omega),by omega,rfl,rfl⟩ (WK kx) ?_;rintro n0 M S ⟨v1,hv,hb,hF0,rfl,rfl⟩;obtain⟨n0,rfl⟩:∃ k,n0=k+1:=⟨n0-1,by omega⟩
 refine UF (nmeS_L0.eq_2 ..) ?_;refine GO (tn 4 z) kx ?_;refine CSd (λh1p h1=>?_) (λh1p h1=>?_)
 ·refine GO (kb h1 (tn 2 (kp (ib s v1 kv) (tn 4 (kj (decide (((byt s (Int.toNat v1):Nat):Int)>=97)) (tn 2 z) z (tn 1 (kj (cond (decide (((byt s (Int.toNat v1):Nat):Int)>=97)) (decide (((byt s (Int.toNat v1):Nat):Int)<=122)) false) z (tn 3 (kj (decide (((byt s (Int.toNat v1):Nat):Int)>=65)) (tn 2 z) z z)) (tn 4 (kj (!cond (cond (decide (((byt s (Int.toNat v1):Nat):Int)>=97)) (decide (((byt s (Int.toNat v1):Nat):Int)<=122)) false) true (cond (decide (((byt s (Int.toNat v1):Nat):Int)>=65)) (decide (((byt s (Int.toNat v1):Nat):Int)<=90)) false)) (tn 2 (hc (λh=>by have j0:=h.2;have j0n:=nott j0;have:=Vee s (Int.toNat v1);have:=Vgc s (Int.toNat v1);exact(Vnx (IntKind.i64.wrap ((byt s (Int.toNat v1):Nat):Int)))) (tn 1 z))) z (tn 1 (kj (cond (!cond (cond (decide (((byt s (Int.toNat v1):Nat):Int)>=97)) (decide (((byt s (Int.toNat v1):Nat):Int)<=122)) false) true (cond (decide (((byt s (Int.toNat v1):Nat):Int)>=65)) (decide (((byt s (Int.toNat v1):Nat):Int)<=90)) false)) (!digC (IntKind.i64.wrap ((byt s (Int.toNat v1):Nat):Int))) false) (tn 2 z) z (tn 1 (kj (cond (cond (!cond (cond (decide (((byt s (Int.toNat v1):Nat):Int)>=97)) (decide (((byt s (Int.toNat v1):Nat):Int)<=122)) false) true (cond (decide (((byt s (Int.toNat v1):Nat):Int)>=65)) (decide (((byt s (Int.toNat v1):Nat):Int)<=90)) false)) (!digC (IntKind.i64.wrap ((byt s (Int.toNat v1):Nat):Int))) false) (((byt s (Int.toNat v1):Nat):Int) !=45) false) (tn 2 z) z (tn 1 (kj (cond (cond (cond (!cond (cond (decide (((byt s (Int.toNat v1):Nat):Int)>=97)) (decide (((byt s (Int.toNat v1):Nat):Int)<=122)) false) true (cond (decide (((byt s (Int.toNat v1):Nat):Int)>=65)) (decide (((byt s (Int.toNat v1):Nat):Int)<=90)) false)) (!digC (IntKind.i64.wrap ((byt s (Int.toNat v1):Nat):Int))) false) (((byt s (Int.toNat v1):Nat):Int) !=45) false) (((byt s (Int.toNat v1):Nat):Int) !=95) false) (tn 2 z) z (tn 1 (kj (cond (cond (cond (cond (!cond (cond (decide (((byt s (Int.toNat v1):Nat):Int)>=97)) (decide (((byt s (Int.toNat v1):Nat):Int)<=122)) false) true (cond (decide (((byt s (Int.toNat v1):Nat):Int)>=65)) (decide (((byt s (Int.toNat v1):Nat):Int)<=90)) false)) (!digC (IntKind.i64.wrap ((byt s (Int.toNat v1):Nat):Int))) false) (((byt s (Int.toNat v1):Nat):Int) !=45) false) (((byt s (Int.toNat v1):Nat):Int) !=95) false) (((byt s (Int.toNat v1):Nat):Int) !=46) false) (tn 2 z) z z))))))))))))))))) kx ?_;refine CS (λh2=>?_) (λh2=>?_)
  ·obtain⟨h2a,h2o⟩:=Va9 h2;obtain⟨h2aa,h2ao⟩:=Va9 h2a;obtain⟨h2aaa,h2aao⟩:=Va9 h2aa;obtain⟨h2aaaa,h2aaao⟩:=Va9 h2aaa;obtain⟨h2aaaaa,h2aaaao⟩:=Va9 h2aaaa
   have h2aaaaan:=nott h2aaaaa
   have h2aaaaon:=nott h2aaaao
   have h2aaaop:=bne_iff_ne.1 h2aaao
   have h2aaop:=bne_iff_ne.1 h2aao
   have h2aop:=bne_iff_ne.1 h2ao
   have h2op:=bne_iff_ne.1 h2o;refine GO (kb h2 z) kx ?_;refine OUT (tn 2 z) kx ?_;exact EN kx
  ·refine GO (kb h2 (tn 1 (kn (wrE (v1+1) (v1+1) kv) (tn 1 z)))) kx ?_;exact AG ⟨_,by first|omega|assumption|(simp only[Va6];omega)|(simp;done)|(simp;omega),by first|omega|assumption|(simp only[Va6];omega)|(simp;done)|(simp;omega),by omega,rfl,rfl⟩ (WK kx) kx (Z0 _)
 ·refine GO (kb h1 z) kx ?_;refine OUT (tn 2 z) kx ?_;exact EN kx
def skpL_L0(s:ByteArray)(i:Int):Nat->Int->Int
 |0,_=>default
 |n0+1,v1=>cond (cond (decide ((v1:Int)<((Zc s:Nat):Int))) (spcC (IntKind.i64.wrap ((byt s (Int.toNat v1):Nat):Int))) false) (skpL_L0 s i n0 (v1+1)) v1
def skpL(s:ByteArray)(i:Int):Int:=skpL_L0 s i ((s.size-Int.toNat i)+1) i
theorem skpL_to(s:ByteArray)(i:Int)(hs:s.size<=1073741824)(h0:0<=i)(h1:i<=1073741833):Va2 Tryz.prog 238 [(jS s),(jI i)] [] [] (jI (skpL s i)) [] []:=by
 refine BEG (λr:Int=>(jI r)) (skpL s i) Tryz.func238 kx ?_;refine UF (skpL.eq_1 ..) ?_;refine GO (tn 1 z) kx ?_;refine LP (λN M S=>∃ v1:Int,(0<=v1)/\(v1<=1073741833)/\(s.size-Int.toNat v1<N)/\M=skpL_L0 s i N v1/\S=(sx 19 [(0,(jS s)),(1,(jI v1))] [] [])) kx ⟨_,by first|omega|assumption|(simp only[Va6];omega)|(simp;done)|(simp;omega),by first|omega|assumption|(simp only[Va6];omega)|(simp;done)|(simp;omega),by omega,rfl,rfl⟩ (WK kx) ?_;rintro n0 M S ⟨v1,hv,hb,hF0,rfl,rfl⟩;obtain⟨n0,rfl⟩:∃ k,n0=k+1:=⟨n0-1,by omega⟩
 refine UF (skpL_L0.eq_2 ..) ?_;refine GO (tn 5 (kj (decide ((v1:Int)<((Zc s:Nat):Int))) (tn 2 (hp (λh=>by have j0:=h.2;have j0p:=of_decide_eq_true j0;exact(ib s v1 kv)) (tn 1 (hc (λh=>by have j0:=h.2;have j0p:=of_decide_eq_true j0;have:=Vee s (Int.toNat v1);have:=Vgc s (Int.toNat v1);exact(Vn3 (IntKind.i64.wrap ((byt s (Int.toNat v1):Nat):Int)))) z)))) z z)) kx ?_;refine CS (λh1=>?_) (λh1=>?_)
 ·obtain⟨h1a,h1o⟩:=Va9 h1
  have h1ap:=of_decide_eq_true h1a;refine GO (kb h1 (tn 1 (kn (wrE (v1+1) (v1+1) kv) (tn 1 z)))) kx ?_;exact AG ⟨_,by first|omega|assumption|(simp only[Va6];omega)|(simp;done)|(simp;omega),by first|omega|assumption|(simp only[Va6];omega)|(simp;done)|(simp;omega),by omega,rfl,rfl⟩ (WK kx) kx (Z0 _)
 ·refine GO (kb h1 z) kx ?_;refine OUT (tn 2 z) kx ?_;exact EN kx
def escL(s:ByteArray)(i:Int):Bool:=cond (cond (cond (((byt s (Int.toNat i):Nat):Int)==92) (decide ((i+1:Int)<((Zc s:Nat):Int))) false) (decide (((byt s (Int.toNat (i+1)):Nat):Int)<128)) false) (pncC (IntKind.i64.wrap ((byt s (Int.toNat (i+1)):Nat):Int))) false
theorem Vnt(s:ByteArray)(i:Int)(hs:s.size<=1073741824)(h0:0<=i)(h1:i<s.size):Va2 Tryz.prog 279 [(jS s),(jI i)] [] [] (jB (escL s i)) [] []:=by
 refine BEG (λr:Bool=>(jB r)) (escL s i) Tryz.func279 kx ?_;refine UF (escL.eq_1 ..) ?_;refine GO (tn 3 (kp (ib s i kv) (tn 2 (kj (((byt s (Int.toNat i):Nat):Int)==92) (tn 1 (hn (λh=>by have j0:=h.2;have j0p:=eq_of_beq j0;exact(wrE (i+1) (i+1) kv)) (tn 3 z))) z (tn 1 (kj (cond (((byt s (Int.toNat i):Nat):Int)==92) (decide ((i+1:Int)<((Zc s:Nat):Int))) false) (tn 2 (hn (λh=>by have j0:=h.2;obtain⟨j0a,j0o⟩:=Va9 j0;have j0ap:=eq_of_beq j0a;have j0op:=of_decide_eq_true j0o;exact(wrE (i+1) (i+1) kv)) (hp (λh=>by have j0:=h.2;obtain⟨j0a,j0o⟩:=Va9 j0;have j0ap:=eq_of_beq j0a;have j0op:=of_decide_eq_true j0o;exact(ib s (i+1) kv)) (tn 1 z)))) z (tn 1 (kj (cond (cond (((byt s (Int.toNat i):Nat):Int)==92) (decide ((i+1:Int)<((Zc s:Nat):Int))) false) (decide (((byt s (Int.toNat (i+1)):Nat):Int)<128)) false) (tn 2 (hn (λh=>by have j0:=h.2;obtain⟨j0a,j0o⟩:=Va9 j0;obtain⟨j0aa,j0ao⟩:=Va9 j0a;have j0aap:=eq_of_beq j0aa;have j0aop:=of_decide_eq_true j0ao;have j0op:=of_decide_eq_true j0o;exact(wrE (i+1) (i+1) kv)) (hp (λh=>by have j0:=h.2;obtain⟨j0a,j0o⟩:=Va9 j0;obtain⟨j0aa,j0ao⟩:=Va9 j0a;have j0aap:=eq_of_beq j0aa;have j0aop:=of_decide_eq_true j0ao;have j0op:=of_decide_eq_true j0o;exact(ib s (i+1) kv)) (tn 1 (hc (λh=>by have j0:=h.2;obtain⟨j0a,j0o⟩:=Va9 j0;obtain⟨j0aa,j0ao⟩:=Va9 j0a;have j0aap:=eq_of_beq j0aa;have j0aop:=of_decide_eq_true j0ao;have j0op:=of_decide_eq_true j0o;have:=Vee s (Int.toNat (i+1));have:=Vgc s (Int.toNat (i+1));exact(Vfg (IntKind.i64.wrap ((byt s (Int.toNat (i+1)):Nat):Int)))) z))))) z (tn 1 z))))))))) kx ?_;exact EN kx
end Go.Proofs.YthbpjmogdonlkaaGreatDoor
set_option maxRecDepth 100000
namespace Go.Proofs
open Go.Shelf
def Tryz.lays172_ren:Go.Shelf.Ren:=⟨λ|129=>286|171=>93|172=>149|205=>297|243=>146|244=>204|245=>205|246=>197|247=>254|279=>255|280=>256|281=>257|282=>258|283=>244|284=>245|285=>246|286=>247|287=>295|316=>296|317=>285|318=>287|319=>288|320=>289|321=>308|322=>309|337=>305|338=>306|n=>n,λ|0=>0|2=>2|3=>3|4=>4|5=>5|9=>9|20=>20|21=>21|37=>33|46=>208|51=>291|53=>255|75=>91|76=>92|80=>82|85=>267|127=>132|143=>309|145=>311|167=>266|168=>269|171=>254|173=>258|175=>298|210=>301|212=>290|213=>292|232=>312|233=>313|n=>n,λ|1=>2|3=>0|4=>1|15=>4|16=>5|17=>3|18=>6|19=>7|n=>n⟩
theorem Tryz.lays172:Go.Proofs.Lays.n172 Tryz.prog Tryz.lays172_ren:={
 mixed:=by kernel_rfl
 f129:=Tryz.func286.trans (congrArg some kx)
 f171:=Tryz.func93.trans (congrArg some kx)
 f172:=Tryz.func149.trans (congrArg some kx)
 f205:=Tryz.func297.trans (congrArg some kx)
 f243:=Tryz.func146.trans (congrArg some kx)
 f244:=Tryz.func204.trans (congrArg some kx)
 f245:=Tryz.func205.trans (congrArg some kx)
 f246:=Tryz.func197.trans (congrArg some kx)
 f247:=Tryz.func254.trans (congrArg some kx)
 f279:=Tryz.func255.trans (congrArg some kx)
 f280:=Tryz.func256.trans (congrArg some kx)
 f281:=Tryz.func257.trans (congrArg some kx)
 f282:=Tryz.func258.trans (congrArg some kx)
 f283:=Tryz.func244.trans (congrArg some kx)
 f284:=Tryz.func245.trans (congrArg some kx)
 f285:=Tryz.func246.trans (congrArg some kx)
 f286:=Tryz.func247.trans (congrArg some kx)
 f287:=Tryz.func295.trans (congrArg some kx)
 f316:=Tryz.func296.trans (congrArg some kx)
 f317:=Tryz.func285.trans (congrArg some kx)
 f318:=Tryz.func287.trans (congrArg some kx)
 f319:=Tryz.func288.trans (congrArg some kx)
 f320:=Tryz.func289.trans (congrArg some kx)
 f321:=Tryz.func308.trans (congrArg some kx)
 f322:=Tryz.func309.trans (congrArg some kx)
 f337:=Tryz.func305.trans (congrArg some kx)
 f338:=Tryz.func306.trans (congrArg some kx)
 t0:=Tryz.underlying0
 a0:=Tryz.isAgg0
 z0:=Tryz.sizeOf0
 v0:=Tryz.zeroValue0
 t2:=Tryz.underlying2
 a2:=Tryz.isAgg2
 z2:=Tryz.sizeOf2
 v2:=Tryz.zeroValue2
 t3:=Tryz.underlying3
 a3:=Tryz.isAgg3
 z3:=Tryz.sizeOf3
 v3:=Tryz.zeroValue3
 t4:=Tryz.underlying4
 a4:=Tryz.isAgg4
 z4:=Tryz.sizeOf4
 v4:=Tryz.zeroValue4
 t5:=Tryz.underlying5
 a5:=Tryz.isAgg5
 z5:=Tryz.sizeOf5
 v5:=Tryz.zeroValue5
 t9:=Tryz.underlying9
 a9:=Tryz.isAgg9
 z9:=Tryz.sizeOf9
 v9:=Tryz.zeroValue9
 t20:=Tryz.underlying20
 a20:=Tryz.isAgg20
 z20:=Tryz.sizeOf20
 v20:=Tryz.zeroValue20
 t21:=Tryz.underlying21
 a21:=Tryz.isAgg21
 z21:=Tryz.sizeOf21
 v21:=Tryz.zeroValue21
 t37:=Tryz.underlying33
 a37:=Tryz.isAgg33
 z37:=Tryz.sizeOf33
 v37:=Tryz.zeroValue33
 t46:=Tryz.underlying208
 a46:=Tryz.isAgg208
 z46:=Tryz.sizeOf208
 v46:=Tryz.zeroValue208
 t51:=Tryz.underlying291
 a51:=Tryz.isAgg291
 z51:=Tryz.sizeOf291
 v51:=Tryz.zeroValue291
 t53:=Tryz.underlying255
 a53:=Tryz.isAgg255
 z53:=Tryz.sizeOf255
 v53:=Tryz.zeroValue255
 t75:=Tryz.underlying91
 a75:=Tryz.isAgg91
 z75:=Tryz.sizeOf91
 v75:=Tryz.zeroValue91
 t76:=Tryz.underlying92
 a76:=Tryz.isAgg92
 z76:=Tryz.sizeOf92
 v76:=Tryz.zeroValue92
 t85:=Tryz.underlying267
 a85:=Tryz.isAgg267
 z85:=Tryz.sizeOf267
 v85:=Tryz.zeroValue267
 t127:=Tryz.underlying132
 a127:=Tryz.isAgg132
 z127:=Tryz.sizeOf132
 v127:=Tryz.zeroValue132
 t143:=Tryz.underlying309
 a143:=Tryz.isAgg309
 z143:=Tryz.sizeOf309
 v143:=Tryz.zeroValue309
 t145:=Tryz.underlying311
 a145:=Tryz.isAgg311
 z145:=Tryz.sizeOf311
 v145:=Tryz.zeroValue311
 t167:=Tryz.underlying266
 a167:=Tryz.isAgg266
 z167:=Tryz.sizeOf266
 v167:=Tryz.zeroValue266
 t168:=Tryz.underlying269
 a168:=Tryz.isAgg269
 z168:=Tryz.sizeOf269
 v168:=Tryz.zeroValue269
 t171:=Tryz.underlying254
 a171:=Tryz.isAgg254
 z171:=Tryz.sizeOf254
 v171:=Tryz.zeroValue254
 t173:=Tryz.underlying258
 a173:=Tryz.isAgg258
 z173:=Tryz.sizeOf258
 v173:=Tryz.zeroValue258
 t175:=Tryz.underlying298
 a175:=Tryz.isAgg298
 z175:=Tryz.sizeOf298
 v175:=Tryz.zeroValue298
 t210:=Tryz.underlying301
 a210:=Tryz.isAgg301
 z210:=Tryz.sizeOf301
 v210:=Tryz.zeroValue301
 t212:=Tryz.underlying290
 a212:=Tryz.isAgg290
 z212:=Tryz.sizeOf290
 v212:=Tryz.zeroValue290
 t213:=Tryz.underlying292
 a213:=Tryz.isAgg292
 z213:=Tryz.sizeOf292
 t232:=Tryz.underlying312
 a232:=Tryz.isAgg312
 z232:=Tryz.sizeOf312
 v232:=Tryz.zeroValue312
 t233:=Tryz.underlying313
 a233:=Tryz.isAgg313
 z233:=Tryz.sizeOf313
 v233:=Tryz.zeroValue313
 g15:=by kernel_rfl
 g16:=by kernel_rfl
 g17:=by kernel_rfl
 g18:=by kernel_rfl
 g19:=by kernel_rfl}
def Tryz.lays137_ren:Go.Shelf.Ren:=⟨λ|137=>171|217=>223|266=>267|n=>n,λ|3=>3|5=>5|9=>9|n=>n,λ|1=>2|3=>0|4=>1|15=>4|16=>5|17=>3|18=>6|19=>7|n=>n⟩
theorem Tryz.lays137:Go.Proofs.Lays.n137 Tryz.prog Tryz.lays137_ren:={
 mixed:=by kernel_rfl
 f137:=Tryz.func171.trans (congrArg some kx)
 f217:=Tryz.func223.trans (congrArg some kx)
 f266:=Tryz.func267.trans (congrArg some kx)
 t3:=Tryz.underlying3
 a3:=Tryz.isAgg3
 z3:=Tryz.sizeOf3
 v3:=Tryz.zeroValue3
 t5:=Tryz.underlying5
 a5:=Tryz.isAgg5
 z5:=Tryz.sizeOf5
 v5:=Tryz.zeroValue5
 t9:=Tryz.underlying9
 a9:=Tryz.isAgg9
 z9:=Tryz.sizeOf9
 v9:=Tryz.zeroValue9}
def Tryz.lays99_ren:Go.Shelf.Ren:=⟨λ|99=>182|206=>228|n=>n,λ|3=>3|4=>4|9=>9|n=>n,λ|1=>2|3=>0|4=>1|15=>4|16=>5|17=>3|18=>6|19=>7|n=>n⟩
theorem Tryz.lays99:Go.Proofs.Lays.n99 Tryz.prog Tryz.lays99_ren:={
 mixed:=by kernel_rfl
 f99:=Tryz.func182.trans (congrArg some kx)
 f206:=Tryz.func228.trans (congrArg some kx)
 t3:=Tryz.underlying3
 a3:=Tryz.isAgg3
 z3:=Tryz.sizeOf3
 v3:=Tryz.zeroValue3
 t4:=Tryz.underlying4
 a4:=Tryz.isAgg4
 z4:=Tryz.sizeOf4
 v4:=Tryz.zeroValue4
 t9:=Tryz.underlying9
 a9:=Tryz.isAgg9
 z9:=Tryz.sizeOf9
 v9:=Tryz.zeroValue9}
def Tryz.lays153_ren:Go.Shelf.Ren:=⟨λ|119=>178|137=>171|152=>128|153=>187|217=>223|224=>179|225=>180|226=>233|227=>46|228=>84|266=>267|n=>n,λ|0=>0|3=>3|4=>4|5=>5|9=>9|21=>21|46=>208|116=>96|117=>97|124=>100|n=>n,λ|1=>2|3=>0|4=>1|15=>4|16=>5|17=>3|18=>6|19=>7|n=>n⟩
theorem Tryz.lays153:Go.Proofs.Lays.n153 Tryz.prog Tryz.lays153_ren:={
 mixed:=by kernel_rfl
 f119:=Tryz.func178.trans (congrArg some kx)
 f137:=Tryz.func171.trans (congrArg some kx)
 f152:=Tryz.func128.trans (congrArg some kx)
 f153:=Tryz.func187.trans (congrArg some kx)
 f217:=Tryz.func223.trans (congrArg some kx)
 f224:=Tryz.func179.trans (congrArg some kx)
 f225:=Tryz.func180.trans (congrArg some kx)
 f226:=Tryz.func233.trans (congrArg some kx)
 f227:=Tryz.func46.trans (congrArg some kx)
 f228:=Tryz.func84.trans (congrArg some kx)
 f266:=Tryz.func267.trans (congrArg some kx)
 t0:=Tryz.underlying0
 a0:=Tryz.isAgg0
 z0:=Tryz.sizeOf0
 v0:=Tryz.zeroValue0
 t3:=Tryz.underlying3
 a3:=Tryz.isAgg3
 z3:=Tryz.sizeOf3
 v3:=Tryz.zeroValue3
 t4:=Tryz.underlying4
 a4:=Tryz.isAgg4
 z4:=Tryz.sizeOf4
 v4:=Tryz.zeroValue4
 t5:=Tryz.underlying5
 a5:=Tryz.isAgg5
 z5:=Tryz.sizeOf5
 v5:=Tryz.zeroValue5
 t9:=Tryz.underlying9
 a9:=Tryz.isAgg9
 z9:=Tryz.sizeOf9
 v9:=Tryz.zeroValue9
 t21:=Tryz.underlying21
 a21:=Tryz.isAgg21
 z21:=Tryz.sizeOf21
 v21:=Tryz.zeroValue21
 t46:=Tryz.underlying208
 a46:=Tryz.isAgg208
 z46:=Tryz.sizeOf208
 v46:=Tryz.zeroValue208
 t116:=Tryz.underlying96
 a116:=Tryz.isAgg96
 z116:=Tryz.sizeOf96
 t117:=Tryz.underlying97
 a117:=Tryz.isAgg97
 z117:=Tryz.sizeOf97
 v117:=Tryz.zeroValue97
 t124:=Tryz.underlying100
 a124:=Tryz.isAgg100
 z124:=Tryz.sizeOf100
 v124:=Tryz.zeroValue100}
def Tryz.lays160_ren:Go.Shelf.Ren:=⟨λ|119=>178|120=>129|137=>171|151=>86|152=>128|160=>22|197=>85|217=>223|224=>179|225=>180|227=>46|228=>84|231=>44|232=>45|233=>47|234=>48|235=>49|236=>50|260=>127|266=>267|271=>87|n=>n,λ|0=>0|3=>3|4=>4|5=>5|9=>9|21=>21|46=>208|105=>141|116=>96|117=>97|119=>207|124=>100|138=>210|139=>211|n=>n,λ|1=>2|3=>0|4=>1|15=>4|16=>5|17=>3|18=>6|19=>7|n=>n⟩
theorem Tryz.lays160:Go.Proofs.Lays.n160 Tryz.prog Tryz.lays160_ren:={
 mixed:=by kernel_rfl
 f119:=Tryz.func178.trans (congrArg some kx)
 f120:=Tryz.func129.trans (congrArg some kx)
 f137:=Tryz.func171.trans (congrArg some kx)
 f151:=Tryz.func86.trans (congrArg some kx)
 f152:=Tryz.func128.trans (congrArg some kx)
 f160:=Tryz.func22.trans (congrArg some kx)
 f197:=Tryz.func85.trans (congrArg some kx)
 f217:=Tryz.func223.trans (congrArg some kx)
 f224:=Tryz.func179.trans (congrArg some kx)
 f225:=Tryz.func180.trans (congrArg some kx)
 f227:=Tryz.func46.trans (congrArg some kx)
 f228:=Tryz.func84.trans (congrArg some kx)
 f231:=Tryz.func44.trans (congrArg some kx)
 f232:=Tryz.func45.trans (congrArg some kx)
 f233:=Tryz.func47.trans (congrArg some kx)
 f234:=Tryz.func48.trans (congrArg some kx)
 f235:=Tryz.func49.trans (congrArg some kx)
 f236:=Tryz.func50.trans (congrArg some kx)
 f260:=Tryz.func127.trans (congrArg some kx)
 f266:=Tryz.func267.trans (congrArg some kx)
 f271:=Tryz.func87.trans (congrArg some kx)
 t0:=Tryz.underlying0
 a0:=Tryz.isAgg0
 z0:=Tryz.sizeOf0
 v0:=Tryz.zeroValue0
 t3:=Tryz.underlying3
 a3:=Tryz.isAgg3
 z3:=Tryz.sizeOf3
 v3:=Tryz.zeroValue3
 t4:=Tryz.underlying4
 a4:=Tryz.isAgg4
 z4:=Tryz.sizeOf4
 v4:=Tryz.zeroValue4
 t5:=Tryz.underlying5
 a5:=Tryz.isAgg5
 z5:=Tryz.sizeOf5
 v5:=Tryz.zeroValue5
 t9:=Tryz.underlying9
 a9:=Tryz.isAgg9
 z9:=Tryz.sizeOf9
 v9:=Tryz.zeroValue9
 t21:=Tryz.underlying21
 a21:=Tryz.isAgg21
 z21:=Tryz.sizeOf21
 v21:=Tryz.zeroValue21
 t46:=Tryz.underlying208
 a46:=Tryz.isAgg208
 z46:=Tryz.sizeOf208
 v46:=Tryz.zeroValue208
 t105:=Tryz.underlying141
 a105:=Tryz.isAgg141
 z105:=Tryz.sizeOf141
 v105:=Tryz.zeroValue141
 t116:=Tryz.underlying96
 a116:=Tryz.isAgg96
 z116:=Tryz.sizeOf96
 t117:=Tryz.underlying97
 a117:=Tryz.isAgg97
 z117:=Tryz.sizeOf97
 v117:=Tryz.zeroValue97
 t119:=Tryz.underlying207
 a119:=Tryz.isAgg207
 z119:=Tryz.sizeOf207
 t124:=Tryz.underlying100
 a124:=Tryz.isAgg100
 z124:=Tryz.sizeOf100
 v124:=Tryz.zeroValue100
 t138:=Tryz.underlying210
 a138:=Tryz.isAgg210
 z138:=Tryz.sizeOf210
 v138:=Tryz.zeroValue210
 t139:=Tryz.underlying211
 a139:=Tryz.isAgg211
 z139:=Tryz.sizeOf211
 v139:=Tryz.zeroValue211
 g3:=by kernel_rfl
 g4:=by kernel_rfl}
def Tryz.lays219_ren:Go.Shelf.Ren:=⟨λ|217=>223|219=>313|224=>179|225=>180|266=>267|267=>315|314=>317|n=>n,λ|3=>3|4=>4|5=>5|9=>9|46=>208|51=>291|146=>294|n=>n,λ|1=>2|3=>0|4=>1|15=>4|16=>5|17=>3|18=>6|19=>7|n=>n⟩
theorem Tryz.lays219:Go.Proofs.Lays.n219 Tryz.prog Tryz.lays219_ren:={
 mixed:=by kernel_rfl
 f217:=Tryz.func223.trans (congrArg some kx)
 f219:=Tryz.func313.trans (congrArg some kx)
 f224:=Tryz.func179.trans (congrArg some kx)
 f225:=Tryz.func180.trans (congrArg some kx)
 f266:=Tryz.func267.trans (congrArg some kx)
 f267:=Tryz.func315.trans (congrArg some kx)
 f314:=Tryz.func317.trans (congrArg some kx)
 t3:=Tryz.underlying3
 a3:=Tryz.isAgg3
 z3:=Tryz.sizeOf3
 v3:=Tryz.zeroValue3
 t4:=Tryz.underlying4
 a4:=Tryz.isAgg4
 z4:=Tryz.sizeOf4
 v4:=Tryz.zeroValue4
 t5:=Tryz.underlying5
 a5:=Tryz.isAgg5
 z5:=Tryz.sizeOf5
 v5:=Tryz.zeroValue5
 t9:=Tryz.underlying9
 a9:=Tryz.isAgg9
 z9:=Tryz.sizeOf9
 v9:=Tryz.zeroValue9
 t46:=Tryz.underlying208
 a46:=Tryz.isAgg208
 z46:=Tryz.sizeOf208
 v46:=Tryz.zeroValue208
 t51:=Tryz.underlying291
 a51:=Tryz.isAgg291
 z51:=Tryz.sizeOf291
 v51:=Tryz.zeroValue291
 t146:=Tryz.underlying294
 a146:=Tryz.isAgg294
 z146:=Tryz.sizeOf294
 v146:=Tryz.zeroValue294
 g1:=by kernel_rfl}
def Tryz.lays171_ren:Go.Shelf.Ren:=⟨λ|129=>286|171=>93|243=>146|246=>197|283=>244|284=>245|285=>246|286=>247|317=>285|318=>287|319=>288|320=>289|337=>305|338=>306|n=>n,λ|0=>0|2=>2|3=>3|4=>4|5=>5|9=>9|20=>20|37=>33|46=>208|51=>291|53=>255|171=>254|173=>258|212=>290|213=>292|232=>312|233=>313|n=>n,λ|1=>2|3=>0|4=>1|15=>4|16=>5|17=>3|18=>6|19=>7|n=>n⟩
theorem Tryz.lays171:Go.Proofs.Lays.n171 Tryz.prog Tryz.lays171_ren:={
 mixed:=by kernel_rfl
 f129:=Tryz.func286.trans (congrArg some kx)
 f171:=Tryz.func93.trans (congrArg some kx)
 f243:=Tryz.func146.trans (congrArg some kx)
 f246:=Tryz.func197.trans (congrArg some kx)
 f283:=Tryz.func244.trans (congrArg some kx)
 f284:=Tryz.func245.trans (congrArg some kx)
 f285:=Tryz.func246.trans (congrArg some kx)
 f286:=Tryz.func247.trans (congrArg some kx)
 f317:=Tryz.func285.trans (congrArg some kx)
 f318:=Tryz.func287.trans (congrArg some kx)
 f319:=Tryz.func288.trans (congrArg some kx)
 f320:=Tryz.func289.trans (congrArg some kx)
 f337:=Tryz.func305.trans (congrArg some kx)
 f338:=Tryz.func306.trans (congrArg some kx)
 t0:=Tryz.underlying0
 a0:=Tryz.isAgg0
 z0:=Tryz.sizeOf0
 v0:=Tryz.zeroValue0
 t2:=Tryz.underlying2
 a2:=Tryz.isAgg2
 z2:=Tryz.sizeOf2
 v2:=Tryz.zeroValue2
 t3:=Tryz.underlying3
 a3:=Tryz.isAgg3
 z3:=Tryz.sizeOf3
 v3:=Tryz.zeroValue3
 t4:=Tryz.underlying4
 a4:=Tryz.isAgg4
 z4:=Tryz.sizeOf4
 v4:=Tryz.zeroValue4
 t5:=Tryz.underlying5
 a5:=Tryz.isAgg5
 z5:=Tryz.sizeOf5
 v5:=Tryz.zeroValue5
 t9:=Tryz.underlying9
 a9:=Tryz.isAgg9
 z9:=Tryz.sizeOf9
 v9:=Tryz.zeroValue9
 t20:=Tryz.underlying20
 a20:=Tryz.isAgg20
 z20:=Tryz.sizeOf20
 v20:=Tryz.zeroValue20
 t37:=Tryz.underlying33
 a37:=Tryz.isAgg33
 z37:=Tryz.sizeOf33
 v37:=Tryz.zeroValue33
 t46:=Tryz.underlying208
 a46:=Tryz.isAgg208
 z46:=Tryz.sizeOf208
 v46:=Tryz.zeroValue208
 t51:=Tryz.underlying291
 a51:=Tryz.isAgg291
 z51:=Tryz.sizeOf291
 v51:=Tryz.zeroValue291
 t53:=Tryz.underlying255
 a53:=Tryz.isAgg255
 z53:=Tryz.sizeOf255
 v53:=Tryz.zeroValue255
 t171:=Tryz.underlying254
 a171:=Tryz.isAgg254
 z171:=Tryz.sizeOf254
 v171:=Tryz.zeroValue254
 t173:=Tryz.underlying258
 a173:=Tryz.isAgg258
 z173:=Tryz.sizeOf258
 v173:=Tryz.zeroValue258
 t212:=Tryz.underlying290
 a212:=Tryz.isAgg290
 z212:=Tryz.sizeOf290
 v212:=Tryz.zeroValue290
 t213:=Tryz.underlying292
 a213:=Tryz.isAgg292
 z213:=Tryz.sizeOf292
 t232:=Tryz.underlying312
 a232:=Tryz.isAgg312
 z232:=Tryz.sizeOf312
 v232:=Tryz.zeroValue312
 t233:=Tryz.underlying313
 a233:=Tryz.isAgg313
 z233:=Tryz.sizeOf313
 v233:=Tryz.zeroValue313
 g17:=by kernel_rfl
 g18:=by kernel_rfl
 g19:=by kernel_rfl}
def Tryz.lays155_ren:Go.Shelf.Ren:=⟨λ|138=>299|143=>300|154=>273|155=>231|165=>252|166=>43|169=>38|195=>311|197=>85|217=>223|218=>312|219=>313|224=>179|225=>180|240=>83|241=>294|260=>127|266=>267|267=>315|276=>126|277=>307|314=>317|n=>n,λ|0=>0|3=>3|4=>4|5=>5|9=>9|20=>20|21=>21|37=>33|46=>208|51=>291|70=>78|72=>80|75=>91|76=>92|80=>82|105=>141|119=>207|127=>132|138=>210|139=>211|146=>294|164=>174|n=>n,λ|1=>2|3=>0|4=>1|15=>4|16=>5|17=>3|18=>6|19=>7|n=>n⟩
theorem Tryz.lays155:Go.Proofs.Lays.n155 Tryz.prog Tryz.lays155_ren:={
 mixed:=by kernel_rfl
 f138:=Tryz.func299.trans (congrArg some kx)
 f143:=Tryz.func300.trans (congrArg some kx)
 f154:=Tryz.func273.trans (congrArg some kx)
 f155:=Tryz.func231.trans (congrArg some kx)
 f165:=Tryz.func252.trans (congrArg some kx)
 f166:=Tryz.func43.trans (congrArg some kx)
 f169:=Tryz.func38.trans (congrArg some kx)
 f195:=Tryz.func311.trans (congrArg some kx)
 f197:=Tryz.func85.trans (congrArg some kx)
 f217:=Tryz.func223.trans (congrArg some kx)
 f218:=Tryz.func312.trans (congrArg some kx)
 f219:=Tryz.func313.trans (congrArg some kx)
 f224:=Tryz.func179.trans (congrArg some kx)
 f225:=Tryz.func180.trans (congrArg some kx)
 f240:=Tryz.func83.trans (congrArg some kx)
 f241:=Tryz.func294.trans (congrArg some kx)
 f260:=Tryz.func127.trans (congrArg some kx)
 f266:=Tryz.func267.trans (congrArg some kx)
 f267:=Tryz.func315.trans (congrArg some kx)
 f276:=Tryz.func126.trans (congrArg some kx)
 f277:=Tryz.func307.trans (congrArg some kx)
 f314:=Tryz.func317.trans (congrArg some kx)
 t0:=Tryz.underlying0
 a0:=Tryz.isAgg0
 z0:=Tryz.sizeOf0
 v0:=Tryz.zeroValue0
 t3:=Tryz.underlying3
 a3:=Tryz.isAgg3
 z3:=Tryz.sizeOf3
 v3:=Tryz.zeroValue3
 t4:=Tryz.underlying4
 a4:=Tryz.isAgg4
 z4:=Tryz.sizeOf4
 v4:=Tryz.zeroValue4
 t5:=Tryz.underlying5
 a5:=Tryz.isAgg5
 z5:=Tryz.sizeOf5
 v5:=Tryz.zeroValue5
 t9:=Tryz.underlying9
 a9:=Tryz.isAgg9
 z9:=Tryz.sizeOf9
 v9:=Tryz.zeroValue9
 t20:=Tryz.underlying20
 a20:=Tryz.isAgg20
 z20:=Tryz.sizeOf20
 v20:=Tryz.zeroValue20
 t21:=Tryz.underlying21
 a21:=Tryz.isAgg21
 z21:=Tryz.sizeOf21
 v21:=Tryz.zeroValue21
 t37:=Tryz.underlying33
 a37:=Tryz.isAgg33
 z37:=Tryz.sizeOf33
 v37:=Tryz.zeroValue33
 t46:=Tryz.underlying208
 a46:=Tryz.isAgg208
 z46:=Tryz.sizeOf208
 v46:=Tryz.zeroValue208
 t51:=Tryz.underlying291
 a51:=Tryz.isAgg291
 z51:=Tryz.sizeOf291
 v51:=Tryz.zeroValue291
 t70:=Tryz.underlying78
 a70:=Tryz.isAgg78
 z70:=Tryz.sizeOf78
 v70:=Tryz.zeroValue78
 t72:=Tryz.underlying80
 a72:=Tryz.isAgg80
 z72:=Tryz.sizeOf80
 v72:=Tryz.zeroValue80
 t75:=Tryz.underlying91
 a75:=Tryz.isAgg91
 z75:=Tryz.sizeOf91
 v75:=Tryz.zeroValue91
 t76:=Tryz.underlying92
 a76:=Tryz.isAgg92
 z76:=Tryz.sizeOf92
 v76:=Tryz.zeroValue92
 t105:=Tryz.underlying141
 a105:=Tryz.isAgg141
 z105:=Tryz.sizeOf141
 v105:=Tryz.zeroValue141
 t119:=Tryz.underlying207
 a119:=Tryz.isAgg207
 z119:=Tryz.sizeOf207
 t127:=Tryz.underlying132
 a127:=Tryz.isAgg132
 z127:=Tryz.sizeOf132
 v127:=Tryz.zeroValue132
 t138:=Tryz.underlying210
 a138:=Tryz.isAgg210
 z138:=Tryz.sizeOf210
 v138:=Tryz.zeroValue210
 t139:=Tryz.underlying211
 a139:=Tryz.isAgg211
 z139:=Tryz.sizeOf211
 v139:=Tryz.zeroValue211
 t146:=Tryz.underlying294
 a146:=Tryz.isAgg294
 z146:=Tryz.sizeOf294
 v146:=Tryz.zeroValue294
 t164:=Tryz.underlying174
 a164:=Tryz.isAgg174
 z164:=Tryz.sizeOf174
 v164:=Tryz.zeroValue174
 g1:=by kernel_rfl
 g3:=by kernel_rfl
 g4:=by kernel_rfl}
def Tryz.lays100_ren:Go.Shelf.Ren:=⟨λ|100=>232|207=>274|n=>n,λ|3=>3|4=>4|9=>9|n=>n,λ|1=>2|3=>0|4=>1|15=>4|16=>5|17=>3|18=>6|19=>7|n=>n⟩
theorem Tryz.lays100:Go.Proofs.Lays.n100 Tryz.prog Tryz.lays100_ren:={
 mixed:=by kernel_rfl
 f100:=Tryz.func232.trans (congrArg some kx)
 f207:=Tryz.func274.trans (congrArg some kx)
 t3:=Tryz.underlying3
 a3:=Tryz.isAgg3
 z3:=Tryz.sizeOf3
 v3:=Tryz.zeroValue3
 t4:=Tryz.underlying4
 a4:=Tryz.isAgg4
 z4:=Tryz.sizeOf4
 v4:=Tryz.zeroValue4
 t9:=Tryz.underlying9
 a9:=Tryz.isAgg9
 z9:=Tryz.sizeOf9
 v9:=Tryz.zeroValue9}
def Tryz.lays105_ren:Go.Shelf.Ren:=⟨λ|99=>182|105=>203|165=>252|166=>43|169=>38|170=>253|206=>228|212=>251|240=>83|241=>294|263=>292|264=>293|276=>126|277=>307|n=>n,λ|0=>0|3=>3|4=>4|5=>5|9=>9|20=>20|37=>33|46=>208|51=>291|53=>255|70=>78|72=>80|75=>91|76=>92|80=>82|109=>264|127=>132|146=>294|148=>296|164=>174|n=>n,λ|1=>2|3=>0|4=>1|15=>4|16=>5|17=>3|18=>6|19=>7|n=>n⟩
theorem Tryz.lays105:Go.Proofs.Lays.n105 Tryz.prog Tryz.lays105_ren:={
 mixed:=by kernel_rfl
 f99:=Tryz.func182.trans (congrArg some kx)
 f105:=Tryz.func203.trans (congrArg some kx)
 f165:=Tryz.func252.trans (congrArg some kx)
 f166:=Tryz.func43.trans (congrArg some kx)
 f169:=Tryz.func38.trans (congrArg some kx)
 f170:=Tryz.func253.trans (congrArg some kx)
 f206:=Tryz.func228.trans (congrArg some kx)
 f212:=Tryz.func251.trans (congrArg some kx)
 f240:=Tryz.func83.trans (congrArg some kx)
 f241:=Tryz.func294.trans (congrArg some kx)
 f263:=Tryz.func292.trans (congrArg some kx)
 f264:=Tryz.func293.trans (congrArg some kx)
 f276:=Tryz.func126.trans (congrArg some kx)
 f277:=Tryz.func307.trans (congrArg some kx)
 t0:=Tryz.underlying0
 a0:=Tryz.isAgg0
 z0:=Tryz.sizeOf0
 v0:=Tryz.zeroValue0
 t3:=Tryz.underlying3
 a3:=Tryz.isAgg3
 z3:=Tryz.sizeOf3
 v3:=Tryz.zeroValue3
 t4:=Tryz.underlying4
 a4:=Tryz.isAgg4
 z4:=Tryz.sizeOf4
 v4:=Tryz.zeroValue4
 t5:=Tryz.underlying5
 a5:=Tryz.isAgg5
 z5:=Tryz.sizeOf5
 v5:=Tryz.zeroValue5
 t9:=Tryz.underlying9
 a9:=Tryz.isAgg9
 z9:=Tryz.sizeOf9
 v9:=Tryz.zeroValue9
 t20:=Tryz.underlying20
 a20:=Tryz.isAgg20
 z20:=Tryz.sizeOf20
 v20:=Tryz.zeroValue20
 t37:=Tryz.underlying33
 a37:=Tryz.isAgg33
 z37:=Tryz.sizeOf33
 v37:=Tryz.zeroValue33
 t46:=Tryz.underlying208
 a46:=Tryz.isAgg208
 z46:=Tryz.sizeOf208
 v46:=Tryz.zeroValue208
 t51:=Tryz.underlying291
 a51:=Tryz.isAgg291
 z51:=Tryz.sizeOf291
 v51:=Tryz.zeroValue291
 t53:=Tryz.underlying255
 a53:=Tryz.isAgg255
 z53:=Tryz.sizeOf255
 v53:=Tryz.zeroValue255
 t70:=Tryz.underlying78
 a70:=Tryz.isAgg78
 z70:=Tryz.sizeOf78
 v70:=Tryz.zeroValue78
 t72:=Tryz.underlying80
 a72:=Tryz.isAgg80
 z72:=Tryz.sizeOf80
 v72:=Tryz.zeroValue80
 t75:=Tryz.underlying91
 a75:=Tryz.isAgg91
 z75:=Tryz.sizeOf91
 v75:=Tryz.zeroValue91
 t76:=Tryz.underlying92
 a76:=Tryz.isAgg92
 z76:=Tryz.sizeOf92
 v76:=Tryz.zeroValue92
 t109:=Tryz.underlying264
 a109:=Tryz.isAgg264
 z109:=Tryz.sizeOf264
 v109:=Tryz.zeroValue264
 t127:=Tryz.underlying132
 a127:=Tryz.isAgg132
 z127:=Tryz.sizeOf132
 v127:=Tryz.zeroValue132
 t146:=Tryz.underlying294
 a146:=Tryz.isAgg294
 z146:=Tryz.sizeOf294
 v146:=Tryz.zeroValue294
 t148:=Tryz.underlying296
 a148:=Tryz.isAgg296
 z148:=Tryz.sizeOf296
 v148:=Tryz.zeroValue296
 t164:=Tryz.underlying174
 a164:=Tryz.isAgg174
 z164:=Tryz.sizeOf174
 v164:=Tryz.zeroValue174}
end Go.Proofs
namespace Go.Proofs.YthbpjmogdonlkaaGreatDoor
open Go Go.Eng Go.RowKit
def A7(s:ByteArray):Prop:=∀(j:Nat) b,s.data.toList[j]? =some b->b.toNat<128
theorem A7.ext{s:ByteArray}(h:A7 s)(i j:Nat):A7 (s.extract i j):=by
 intro k b hk
 have hm:=List.mem_of_getElem? hk
 have h2:b∈s.data.toList:=by
  have e:(s.extract i j).data.toList=(s.data.toList.drop i).take (j-i):=by simp[List.extract_eq_take_drop]
  rw[e]at hm;exact List.mem_of_mem_drop (List.mem_of_mem_take hm)
 obtain⟨n,hn,e⟩:=List.getElem_of_mem h2;exact h n b (by rw[List.getElem?_eq_getElem hn,e])
theorem Vc0{G:Gh}{w w':World}(hw:Wf G w)(h:Below w.heap.size w w'):Step G w G w'/\Wf G w'/\∀ κ,Keep G w G w' κ:=by
 have hU:∀ k,0<G.U k->k<w.heap.size:=λk hk=>by
  rcases Zd k w.heap.size with h|h
  ·exact h
  ·rw[hw.zero k h]at hk;omega
 have hk:∀ κ,Keep G w G w' κ:=λκ=>⟨rfl,λb hb=>⟨h.block b (hw.lt κ b hb),rfl⟩⟩
 refine⟨⟨⟨λ_=>Zt _,⟨λb o ho=>World.cell?_of_block (h.block b (hU b kv)),λb es c h1 h2=>(h.block b (hU b kv)).trans h2,λb e h1 ⟨arr,m,h2⟩=>⟨arr,m,(h.block b (hU b kv)).trans h2⟩,λb o n h1 _ ⟨arr,e,lo,hi,h2,h3⟩=>⟨arr,e,lo,hi,(h.block b (hU b kv)).trans h2,h3⟩,λb e h1 _ ⟨arr,h2⟩=>⟨arr,(h.block b (hU b kv)).trans h2⟩⟩,h.size,h.os,by rw[h.tape],h.output,λ_ _=>rfl,λ_=>Zt _,λκ _ _=>hk κ⟩,
  λb hb _=>⟨h.block b hb,rfl⟩,λκ b hb=>.inl ⟨κ,hb⟩⟩,⟨hw.inj,λκ b hb=>Nat.lt_of_lt_of_le (hw.lt κ b hb) h.size,λb hb=>hw.zero b (Nat.le_trans h.size hb)⟩,hk⟩
theorem Vcm{P:Program}{f:FuncId}{args:List SV}{vs:Array Value}{res:SV}{v:Value}(he:Vhs P f)(hargs:∀(G:Gh)(w:World)(us:List Value),RepSs G w args us->us.toArray=vs)(hres:∀(G:Gh)(w:World),RepS G w res v)
  (h:∀ w,Calls P f vs w λe w'=>e=.returned v/\Below w.heap.size w w'):Va2 P f args [] [] res [] []:=by
 refine⟨he,λG w us hw hr _ _=>?_⟩;rw[hargs G w us hr];refine(h w).mono ?_;rintro e w' ⟨rfl,hb⟩;obtain⟨s1,s2,s3⟩:=Vc0 hw hb;exact⟨v,G,rfl,s1,s2,hres G _,by simp,λi _=>s3 _,λ_ _=>rfl,λκ=>rfl⟩
theorem args1{G:Gh}{w:World}{s:ByteArray}{us:List Value}(h:RepSs G w [jS s] us):us.toArray=#[.string s]:=by
 obtain⟨u,l,rfl,h1,h2⟩:=h
 have h3:l=[]:=h2;subst h3;rw[h1.1]
theorem args2{G:Gh}{w:World}{s:ByteArray}{c:Int}{us:List Value}(h:RepSs G w [jS s,.av (.val (.int .u8 c))] us):us.toArray=#[.string s,.int .u8 c]:=by
 obtain⟨u,l,rfl,h1,h2⟩:=h;obtain⟨u2,l2,rfl,h3,h4⟩:=h2
 have h5:l2=[]:=h4;subst h5;rw[h1.1,h3.1]
theorem Vqe{G:Gh}{w:World}{s t:ByteArray}{us:List Value}(h:RepSs G w [jS s,jS t] us):us.toArray=#[.string s,.string t]:=by
 obtain⟨u,l,rfl,h1,h2⟩:=h;obtain⟨u2,l2,rfl,h3,h4⟩:=h2
 have h5:l2=[]:=h4;subst h5;rw[h1.1,h3.1]
def idxB(s:ByteArray)(c:Int):Int:=Lib.indexByte s.data.toList c.toNat.toUInt8
theorem Vko(s:ByteArray)(c:Int):Va2 Tryz.prog 171 [jS s,.av (.val (.int .u8 c))] [] [] (jI (idxB s c)) [] []:=by
 refine Vcm ⟨Tryz.f171,Tryz.func171,by kernel_rfl,by kernel_rfl⟩ (λG w us h=>args2 h) (λG w=>⟨rfl,rfl⟩) (λw=>?_);refine(Any.strings_IndexByte Tryz.lays137 s c w).mono λe w' ⟨he,hw⟩=>⟨he,by rw[hw];exact Below.refl _ _⟩
def hpxB(s p:ByteArray):Bool:=Lib.hasPrefix s.data.toList p.data.toList
theorem Vcb(s p:ByteArray):Va2 Tryz.prog 182 [jS s,jS p] [] [] (jB (hpxB s p)) [] []:=by
 refine Vcm ⟨Tryz.f182,Tryz.func182,by kernel_rfl,by kernel_rfl⟩ (λG w us h=>Vqe h) (λG w=>⟨rfl,rfl⟩) (λw=>?_);refine(Any.strings_HasPrefix Tryz.lays99 s p w).mono λe w' ⟨he,hw⟩=>⟨he,by rw[hw];exact Below.refl _ _⟩
def idxA(s p:ByteArray):Int:=Lib.indexAny s.data.toList p.data.toList
theorem zero256:∀ w,(zeroValue (Tryz.lays153_ren.t 116)).run Tryz.prog w=.ok (.agg (Array.replicate 256 (.bool false))) w:=λw=>by
 have h:Vak Tryz.prog (Tryz.lays153_ren.t 116)=some (256,256,some (.agg (Array.replicate 256 (.bool false)))):=by kernel_rfl
 exact Vam h w
theorem info256:(Tryz.prog.info? (Tryz.lays153_ren.t 116)).map (·.size)=some 256:=by kernel_rfl
def ctnA(s p:ByteArray):Bool:=Lib.containsAny s.data.toList p.data.toList
def trmB(s p:ByteArray):ByteArray:=⟨(Lib.trimS s.data.toList p.data.toList).toArray⟩
theorem Vhu(s p:ByteArray)(hs:s.size<=1073741824)(hp:p.size<=1073741824)(hap:A7 p):Va2 Tryz.prog 22 [jS s,jS p] [] [] (jS (trmB s p)) [] []:=by
 refine Vcm ⟨Tryz.f22,Tryz.func22,by kernel_rfl,by kernel_rfl⟩ (λG w us h=>Vqe h) (λG w=>⟨rfl,rfl⟩) (λw=>?_);refine(Any.strings_Trim_ascii Tryz.lays160 zero256 info256 s p w kv kv hap).mono λe w' ⟨he,hw⟩=>⟨he,hw⟩
theorem idxB_lt:∀(l:List UInt8)(c:UInt8), -1<=Lib.indexByte l c/\Lib.indexByte l c<l.length
 |[],c=>by simp[Lib.indexByte]
 |x::l,c=>by
  have h:=idxB_lt l c;simp only[Lib.indexByte,List.length_cons]
  split
  ·omega
  ·split <;>omega
theorem idxB_bd(s:ByteArray)(c:Int): -1<=idxB s c/\idxB s c<s.size:=by
 have h:=idxB_lt s.data.toList c.toNat.toUInt8
 have e:=Lib.size_eq s;unfold idxB;omega
theorem idxA_lt:∀(l p:List UInt8), -1<=Lib.indexAny l p/\Lib.indexAny l p<l.length
 |[],p=>by simp[Lib.indexAny]
 |x::l,p=>by
  have h:=idxA_lt l p;simp only[Lib.indexAny,List.length_cons]
  split
  ·omega
  ·split <;>omega
theorem Vkp(s p:ByteArray): -1<=idxA s p/\idxA s p<s.size:=by
 have h:=idxA_lt s.data.toList p.data.toList
 have e:=Lib.size_eq s;unfold idxA;omega
theorem trmS_sub(l p:List UInt8):(Lib.trimS l p).Sublist l:=by
 refine(List.dropWhile_sublist _).trans ?_
 have h:=List.dropWhile_sublist (p.contains ·) (l:=l.reverse)
 have h2:=h.reverse;rw[List.reverse_reverse]at h2;exact h2
theorem Vf8(s p:ByteArray):(trmB s p).size<=s.size:=by
 have h:=(trmS_sub s.data.toList p.data.toList).length_le
 have e:=Lib.size_eq s
 have e2:=Lib.size_eq (trmB s p)
 have e3:(trmB s p).data.toList=Lib.trimS s.data.toList p.data.toList:=rfl;rw[e3]at e2;omega
theorem A7.trm{s:ByteArray}(h:A7 s)(p:ByteArray):A7 (trmB s p):=by
 intro k b hk
 have h2:=(trmS_sub s.data.toList p.data.toList).subset (List.mem_of_getElem? hk);obtain⟨n,hn,e⟩:=List.getElem_of_mem h2;exact h n b (by rw[List.getElem?_eq_getElem hn,e])
theorem A7.lit{s:ByteArray}(h:s.data.toList.all (λb=>b.toNat<128)=true):A7 s:=by
 intro k b hk
 have:=Zk.1 h b (List.mem_of_getElem? hk);simpa using this
theorem Ven(s:ByteArray)(F:Nat->Int->Int)(hF:∀ n v,F (n+1) v=v\/(v<(s.size:Int)/\F (n+1) v=F n (v+1))):∀(n:Nat)(v:Int),0<=v->s.size-v.toNat<n->v<=F n v/\(F n v<=s.size\/F n v<=v)
 |0,v,h0,h1=>by omega
 |n+1,v,h0,h1=>by
  rcases hF n v with h|⟨h2,h⟩
  ·rw[h];omega
  ·have:=Ven s F hF n (v+1) kv kv;rw[h];omega
theorem cond_or2{a y:Bool}(h:cond a true y=true):a=true\/y=true:=by cases a <;>simp_all
theorem Vcq{a b:Prop}(h:a=b)(p:a):b:=h ▸ p
attribute [irreducible] idxB hpxB idxA ctnA trmB
end Go.Proofs.YthbpjmogdonlkaaGreatDoor
