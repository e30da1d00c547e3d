/- Texts joined by a program (merge.py). -/
import Derived.Test.YthbpjmogdonlkaaGreatDoorMle
import Derived.KernelRfl
import Derived.Test.YthbpjmogdonlkaaGreatDoorMld
import Derived.Shelf.Strings.Replace
import Derived.Shelf.Strings.Prefix
import Derived.Shelf.Strings.Repeat
import Derived.Test.YthbpjmogdonlkaaGreatDoorMla
import Derived.Shelf.Strconv.Itoa3
import Derived.Shelf.Strconv.Atoi
import Derived.Lib.AtoiErrMem
import Derived.OrdersIn
import Derived.AtR
import Derived.RangeFuncSeq
import Derived.RangeFuncNested
import Derived.RangeFuncBound
import Derived.RangeFuncCalls
import Derived.RangeFuncLeaves
import Derived.RangeFuncKeeps
import Derived.RangeFuncFrom
import Derived.Shelf.Abstract
import Derived.WalkKit
import Derived.OwnWalkIn
import Derived.TacticsInMore
import Derived.LoopNIn
import Derived.LoopIn
set_option linter.unusedSimpArgs false
set_option linter.unusedVariables false
set_option maxRecDepth 100000
set_option maxHeartbeats 4000000
open List renaming mem_cons -> Za
open Nat renaming lt_succ_self -> Zb
open List renaming not_mem_nil -> Zc
open List renaming nodup_append -> Zd
open List renaming mem_append -> Ze
open List renaming dropLast_cons_of_ne_nil -> Zf
open List renaming cons_append -> Zg
open ByteArray renaming size_extract -> Zh
open List renaming nodup_cons -> Zi
open List renaming getElem?_cons_zero -> Zj
open List renaming getElem?_cons_succ -> Zk
open Option.some renaming injEq -> Zl
open List renaming length_cons -> Zm
open List renaming all_eq_true -> Zn
open List renaming append_assoc -> Zo
open List renaming nil_append -> Zp
open ByteArray renaming size_append -> Zq
open List renaming drop_eq_getElem_cons -> Zr
open List renaming length_map -> Zs
open List renaming mem_map -> Zt
open List renaming size_toArray -> Zu
open List renaming mem_append_left -> Zv
open List renaming filter_append -> Zw
open List renaming take_append_drop -> Zx
open List renaming singleton_append -> Zy
open List renaming range -> Zz
open List renaming pairwise_append -> Z0
open Array renaming replicate_zero -> Z1
open Array renaming replicate_succ -> Z2
open Option.some renaming inj -> Z3
open List renaming length_nil -> Z4
open List renaming append_toArray -> Z5
namespace Go.Proofs.YthbpjmogdonlkaaGreatDoor
open Go Go.Eng
def ctnG(s:ByteArray)(p:ByteArray):Bool:=decide ((idxA s p:Int)>=0)
theorem ctnG_to(s:ByteArray)(p:ByteArray)(hs:s.size<=1073741824)(hp:p.size<=1073741824)(hp2:2<=p.size)(ha:A7 p):Va2 Tryz.prog 176 [(jS s),(jS p)] [] [] (jB (ctnG s p)) [] []:=by
 refine BEG (λr:Bool=>(jB r)) (ctnG s p) Tryz.func176 kx ?_;refine UF (ctnG.eq_1 ..) ?_
 have:=Vkp s p;refine gO (tn 3 (kc (idxG_to s p ky ky (by first|decide|assumption) (by first|assumption|exact A7.lit gj)) (tn 2 z))) ?_;exact EN kx
def seqS(c:Int):ByteArray:=Utf8.encode (IntKind.i32.wrap (cond (cond (cond (decide ((c:Int)<0)) true (decide ((c:Int)>1114111))) true (cond (decide ((c:Int)>=55296)) (decide ((c:Int)<=57343)) false)) 65533 c))
theorem seqS_to(c:Int):Va2 Tryz.prog 229 [(jI c)] [] [] (jS (seqS c)) [] []:=by
 refine BEG (λr:ByteArray=>(jS r)) (seqS c) Tryz.func229 kx ?_;refine UF (seqS.eq_1 ..) ?_
 have:=Vnz (cond (cond (decide ((c:Int)<0)) true (decide ((c:Int)>1114111))) true (cond (decide ((c:Int)>=55296)) (decide ((c:Int)<=57343)) false)) 65533 c;refine gO (tn 4 (kj (decide ((c:Int)<0)) z (tn 2 z) (tn 1 (kj (cond (decide ((c:Int)<0)) true (decide ((c:Int)>1114111))) z (tn 3 (kj (decide ((c:Int)>=55296)) (tn 2 z) z z)) (ks (cond (cond (decide ((c:Int)<0)) true (decide ((c:Int)>1114111))) true (cond (decide ((c:Int)>=55296)) (decide ((c:Int)<=57343)) false)) [0] (tn 1 z) z (tn 4 z)))))) ?_;exact EN kx
theorem enc_sz(c:Int):1<=(Utf8.encode c).size/\(Utf8.encode c).size<=4:=by
 by_cases h:128<=c
 ·have:=enc_last c h;omega
 ·unfold Utf8.encode;simp only
  repeat' split
  all_goals exact⟨Nat.le_of_ble_eq_true rfl,Nat.le_of_ble_eq_true rfl⟩
theorem seqS_bd(c:Int):(seqS c).size<=4:=by
 unfold seqS;exact(enc_sz _).2
def appS(s:ByteArray)(c:Int):ByteArray:=s++(seqS c)
theorem appS_to(s:ByteArray)(c:Int)(hs:s.size<=1073741824):Va2 Tryz.prog 184 [(jS s),(jI c)] [] [] (jS (appS s c)) [] []:=by
 refine BEG (λr:ByteArray=>(jS r)) (appS s c) Tryz.func184 kx ?_;refine UF (appS.eq_1 ..) ?_
 have:=seqS_bd c;refine gO (tn 3 (kc (seqS_to c) (kp (show((ByteArray.size s+ByteArray.size (seqS c):Nat):Int)<=IntKind.i64.max from(by simp[IntKind.max,IntKind.signed,IntKind.bits];omega)) (tn 1 z)))) ?_;exact EN kx
def dolG(s:ByteArray)(i:Int):(DInline×Int):=cond (decide ((idxA (ByteArray.extract s (Int.toNat (i+1)) (ByteArray.size s)) (⟨#[36,10]⟩):Int)<1)) (DInline.mk 0 (⟨#[]⟩) (⟨#[]⟩) (⟨#[]⟩) (DAttr.mk (⟨#[]⟩) ([]) ([])) ([]) ([]) ([]),0) (cond (cond (cond (((byt s (Int.toNat ((i+1)+(idxA (ByteArray.extract s (Int.toNat (i+1)) (ByteArray.size s)) (⟨#[36,10]⟩)))):Nat):Int) !=36) true (((byt s (Int.toNat (i+1)):Nat):Int)==32)) true (((byt s (Int.toNat (((i+1)+(idxA (ByteArray.extract s (Int.toNat (i+1)) (ByteArray.size s)) (⟨#[36,10]⟩)))-1)):Nat):Int)==32)) (DInline.mk 0 (⟨#[]⟩) (⟨#[]⟩) (⟨#[]⟩) (DAttr.mk (⟨#[]⟩) ([]) ([])) ([]) ([]) ([]),0) (cond (cond (decide ((((i+1)+(idxA (ByteArray.extract s (Int.toNat (i+1)) (ByteArray.size s)) (⟨#[36,10]⟩)))+1:Int)<((ByteArray.size s:Nat):Int))) (digC (IntKind.i64.wrap ((byt s (Int.toNat (((i+1)+(idxA (ByteArray.extract s (Int.toNat (i+1)) (ByteArray.size s)) (⟨#[36,10]⟩)))+1)):Nat):Int))) false) (DInline.mk 0 (⟨#[]⟩) (⟨#[]⟩) (⟨#[]⟩) (DAttr.mk (⟨#[]⟩) ([]) ([])) ([]) ([]) ([]),0) (DInline.mk 5 (ByteArray.extract s (Int.toNat (i+1)) (Int.toNat ((i+1)+(idxA (ByteArray.extract s (Int.toNat (i+1)) (ByteArray.size s)) (⟨#[36,10]⟩))))) (⟨#[]⟩) (⟨#[]⟩) (DAttr.mk (⟨#[]⟩) ([]) ([])) ([]) ([]) ([]),((i+1)+(idxA (ByteArray.extract s (Int.toNat (i+1)) (ByteArray.size s)) (⟨#[36,10]⟩)))+1)))
theorem dolG_to(s:ByteArray)(i:Int)(hs:s.size<=1073741824)(h0:0<=i)(h1:i<s.size):Va2 Tryz.prog 137 [(jS s),(jI i)] [] [] (.av (.tup [(Vap ((dolG s i).1)),(vI ((dolG s i).2))])) [] []:=by
 refine BEG (λr:(DInline×Int)=>(.av (.tup [(Vap r.1),(vI r.2)]))) (dolG s i) Tryz.func137 kx ?_;refine UF (dolG.eq_1 ..) ?_
 have:=Vag s (Int.toNat (i+1)) (ByteArray.size s)
 have:=Vkp (ByteArray.extract s (Int.toNat (i+1)) (ByteArray.size s)) (⟨#[36,10]⟩);refine gO (tn 4 (kn (wrE (i+1) (i+1) kv) (kp (show 0<=(i+1:Int)/\(i+1:Int)<=((ByteArray.size s:Nat):Int)/\((ByteArray.size s:Nat):Int)<=((ByteArray.size s:Nat):Int)from(by first|omega|(simp only[Va6,true_and];omega))) (kc (idxG_to (ByteArray.extract s (Int.toNat (i+1)) (ByteArray.size s)) (⟨#[36,10]⟩) ky ky (by first|decide|assumption) (by first|assumption|exact A7.lit gj)) (tn 3 z))))) ?_;refine CSd (λh1p h1=>?_) (λh1p h1=>?_)
 ·refine gO (kb h1 (tn 3 z)) ?_;exact EN kx
 ·refine gO (kb h1 (tn 1 (kn (wrE (i+1) (i+1) kv) (tn 1 (kn (wrE ((i+1)+(idxA (ByteArray.extract s (Int.toNat (i+1)) (ByteArray.size s)) (⟨#[36,10]⟩))) ((i+1)+(idxA (ByteArray.extract s (Int.toNat (i+1)) (ByteArray.size s)) (⟨#[36,10]⟩))) kv) (tn 3 (kp (ib s ((i+1)+(idxA (ByteArray.extract s (Int.toNat (i+1)) (ByteArray.size s)) (⟨#[36,10]⟩))) kv) (tn 2 (kj (((byt s (Int.toNat ((i+1)+(idxA (ByteArray.extract s (Int.toNat (i+1)) (ByteArray.size s)) (⟨#[36,10]⟩)))):Nat):Int) !=36) z (tn 2 (hn (λh=>by have j0:=h.2;have j0p:=Vah j0;exact(wrE (i+1) (i+1) kv)) (hp (λh=>by have j0:=h.2;have j0p:=Vah j0;exact(ib s (i+1) kv)) (tn 1 z)))) (tn 1 (kj (cond (((byt s (Int.toNat ((i+1)+(idxA (ByteArray.extract s (Int.toNat (i+1)) (ByteArray.size s)) (⟨#[36,10]⟩)))):Nat):Int) !=36) true (((byt s (Int.toNat (i+1)):Nat):Int)==32)) z (tn 2 (hn (λh=>by have j0:=h.2;obtain⟨j0a,j0o⟩:=Vae j0;have j0ap:=Vah j0a;have j0op:=ne_of_beq_false j0o;exact(wrE (((i+1)+(idxA (ByteArray.extract s (Int.toNat (i+1)) (ByteArray.size s)) (⟨#[36,10]⟩)))-1) (((i+1)+(idxA (ByteArray.extract s (Int.toNat (i+1)) (ByteArray.size s)) (⟨#[36,10]⟩)))-1) kv)) (hp (λh=>by have j0:=h.2;obtain⟨j0a,j0o⟩:=Vae j0;have j0ap:=Vah j0a;have j0op:=ne_of_beq_false j0o;exact(ib s (((i+1)+(idxA (ByteArray.extract s (Int.toNat (i+1)) (ByteArray.size s)) (⟨#[36,10]⟩)))-1) kv)) (tn 1 z)))) z))))))))))) ?_;refine CS (λh2=>?_) (λh2=>?_)
  ·refine gO (kb h2 (tn 3 z)) ?_;exact EN kx
  ·obtain⟨h2a,h2o⟩:=Vae h2;obtain⟨h2aa,h2ao⟩:=Vae h2a
   have h2aap:=Vah h2aa
   have h2aop:=ne_of_beq_false h2ao
   have h2op:=ne_of_beq_false h2o;refine gO (kb h2 (tn 1 (kn (wrE (((i+1)+(idxA (ByteArray.extract s (Int.toNat (i+1)) (ByteArray.size s)) (⟨#[36,10]⟩)))+1) (((i+1)+(idxA (ByteArray.extract s (Int.toNat (i+1)) (ByteArray.size s)) (⟨#[36,10]⟩)))+1) kv) (tn 4 (kj (decide ((((i+1)+(idxA (ByteArray.extract s (Int.toNat (i+1)) (ByteArray.size s)) (⟨#[36,10]⟩)))+1:Int)<((ByteArray.size s:Nat):Int))) (tn 2 (hn (λh=>by have j0:=h.2;have j0p:=of_decide_eq_true j0;exact(wrE (((i+1)+(idxA (ByteArray.extract s (Int.toNat (i+1)) (ByteArray.size s)) (⟨#[36,10]⟩)))+1) (((i+1)+(idxA (ByteArray.extract s (Int.toNat (i+1)) (ByteArray.size s)) (⟨#[36,10]⟩)))+1) kv)) (hp (λh=>by have j0:=h.2;have j0p:=of_decide_eq_true j0;exact(ib s (((i+1)+(idxA (ByteArray.extract s (Int.toNat (i+1)) (ByteArray.size s)) (⟨#[36,10]⟩)))+1) kv)) (tn 1 (hc (λh=>by have j0:=h.2;have j0p:=of_decide_eq_true j0;have:=Vee s (Int.toNat (((i+1)+(idxA (ByteArray.extract s (Int.toNat (i+1)) (ByteArray.size s)) (⟨#[36,10]⟩)))+1));have:=Vgc s (Int.toNat (((i+1)+(idxA (ByteArray.extract s (Int.toNat (i+1)) (ByteArray.size s)) (⟨#[36,10]⟩)))+1));exact(Vnx (IntKind.i64.wrap ((byt s (Int.toNat (((i+1)+(idxA (ByteArray.extract s (Int.toNat (i+1)) (ByteArray.size s)) (⟨#[36,10]⟩)))+1)):Nat):Int)))) z))))) z z))))) ?_;refine CS (λh3=>?_) (λh3=>?_)
   ·obtain⟨h3a,h3o⟩:=Va9 h3
    have h3ap:=of_decide_eq_true h3a;refine gO (kb h3 (tn 3 z)) ?_;exact EN kx
   ·have:=Vag s (Int.toNat (i+1)) (Int.toNat ((i+1)+(idxA (ByteArray.extract s (Int.toNat (i+1)) (ByteArray.size s)) (⟨#[36,10]⟩))));refine gO (kb h3 (tn 2 (kn (wrE (i+1) (i+1) kv) (tn 1 (kp (show 0<=(i+1:Int)/\(i+1:Int)<=(i+1)+(idxA (ByteArray.extract s (Int.toNat (i+1)) (ByteArray.size s)) (⟨#[36,10]⟩))/\(i+1)+(idxA (ByteArray.extract s (Int.toNat (i+1)) (ByteArray.size s)) (⟨#[36,10]⟩))<=((ByteArray.size s:Nat):Int)from(by first|omega|(simp only[Va6,true_and];omega))) (tn 2 (kn (wrE (((i+1)+(idxA (ByteArray.extract s (Int.toNat (i+1)) (ByteArray.size s)) (⟨#[36,10]⟩)))+1) (((i+1)+(idxA (ByteArray.extract s (Int.toNat (i+1)) (ByteArray.size s)) (⟨#[36,10]⟩)))+1) kv) (tn 2 z)))))))) ?_;exact EN kx
def befI_L0(s:ByteArray)(i:Int):Nat->Int->Int
 |0,_=>default
 |n0+1,v5=>cond (decide ((v5:Int)>1)) (cond (decide ((i:Int)<v5)) (befI_L0 s i n0 (v5-1)) (cond (((nxtN s (i-v5)).2:Int)==v5) ((nxtN s (i-v5)).1) (befI_L0 s i n0 (v5-1)))) ((nxtN (ByteArray.extract s (Int.toNat (i-1)) (Int.toNat i)) 0).1)
def befI(s:ByteArray)(i:Int):Int:=cond ((i:Int)==0) (-1) (befI_L0 s i ((Int.toNat 4)+1) 4)
theorem befI_to(s:ByteArray)(i:Int)(hs:s.size<=1073741824)(h0:0<=i)(h1:i<=s.size):Va2 Tryz.prog 191 [(jS s),(jI i)] [] [] (jI (befI s i)) [] []:=by
 refine BEG (λr:Int=>(jI r)) (befI s i) Tryz.func191 kx ?_;refine UF (befI.eq_1 ..) ?_;refine gO (tn 3 z) ?_;refine CSe (λh1p h1=>?_) (λh1p h1=>?_)
 ·refine gO (kb h1 (tn 1 z)) ?_;exact EN kx
 ·refine gO (kb h1 (tn 1 z)) ?_;refine LP (λN M S=>∃ v5:Int,(1<=v5/\v5<=4)/\(Int.toNat v5<N)/\M=befI_L0 s i N v5/\S=(sx 41 [(0,(jS s)),(1,(jI i)),(5,(jI v5))] [] [])) kx ⟨_,by first|omega|assumption|(simp only[Va6];omega)|(simp;done)|(simp;omega),by omega,rfl,rfl⟩ (WK kx) ?_;rintro n0 M S ⟨v5,hv,hF0,rfl,rfl⟩;obtain⟨n0,rfl⟩:∃ k,n0=k+1:=⟨n0-1,by omega⟩
  refine UF (befI_L0.eq_2 ..) ?_;refine gO (tn 2 z) ?_;refine CSd (λh2p h2=>?_) (λh2p h2=>?_)
  ·refine gO (kb h2 (tn 3 z)) ?_;refine CSd (λh3p h3=>?_) (λh3p h3=>?_)
   ·refine gO (kb h3 (tn 1 (kn (wrE (v5-1) (v5-1) kv) (tn 1 z)))) ?_;exact AG ⟨_,by first|omega|assumption|(simp only[Va6];omega)|(simp;done)|(simp;omega),by omega,rfl,rfl⟩ (WK kx) kx (Zb _)
   ·refine gO (kb h3 (tn 3 (kn (wrE (i-v5) (i-v5) kv) (kc (Vcf s (i-v5) ky ky ky) (tn 8 z))))) ?_;refine CSe (λh4p h4=>?_) (λh4p h4=>?_)
    ·refine gO (kb h4 (tn 2 z)) ?_;refine OUT z kx ?_;exact EN kx
    ·refine gO (kb h4 (tn 1 (kn (wrE (v5-1) (v5-1) kv) (tn 1 z)))) ?_;exact AG ⟨_,by first|omega|assumption|(simp only[Va6];omega)|(simp;done)|(simp;omega),by omega,rfl,rfl⟩ (WK kx) kx (Zb _)
  ·refine gO (kb h2 z) ?_
   have:=Vag s (Int.toNat (i-1)) (Int.toNat i);refine OUT (tn 2 (kn (wrE (i-1) (i-1) kv) (tn 1 (kp (show 0<=(i-1:Int)/\(i-1:Int)<=i/\i<=((ByteArray.size s:Nat):Int)from(by first|omega|(simp only[Va6,true_and];omega))) (kc (Vcf (ByteArray.extract s (Int.toNat (i-1)) (Int.toNat i)) 0 ky ky ky) (tn 7 z)))))) kx ?_;exact EN kx
def runP(s:ByteArray)(ka:List Int)(va:List AV)(kd:List Int)(vd:List AV)(i:Int):(DPiece×Bool):=cond (cond (((byt s (Int.toNat i):Nat):Int)==126) (((runE s i)-i:Int) !=2) false) (litP s i (runE s i),true) (DPiece.mk 1 (DInline.mk 0 (⟨#[]⟩) (⟨#[]⟩) (⟨#[]⟩) (DAttr.mk (⟨#[]⟩) ([]) ([])) ([]) ([]) ([])) (ByteArray.extract s (Int.toNat i) (Int.toNat (i+1))) ((runE s i)-i) ((flkB (ByteArray.extract s (Int.toNat i) (Int.toNat (i+1))) (befI s i) ((nxtN s (runE s i)).1)).1) ((flkB (ByteArray.extract s (Int.toNat i) (Int.toNat (i+1))) (befI s i) ((nxtN s (runE s i)).1)).2) false 0 (runE s i),false)
theorem runP_to(s:ByteArray)(ka:List Int)(va:List AV)(kd:List Int)(vd:List AV)(i:Int)(hs:s.size<=1073741824)(h0:0<=i)(h1:i<s.size):Va2 Tryz.prog 143 [(.av (.agg [(vS s),(.im ka va),(.im kd vd)])),(jI i)] [] [] (.av (.tup [(Vbo ((runP s ka va kd vd i).1)),(vB ((runP s ka va kd vd i).2))])) [] []:=by
 refine BEG (λr:(DPiece×Bool)=>(.av (.tup [(Vbo r.1),(vB r.2)]))) (runP s ka va kd vd i) Tryz.func143 kx ?_;refine UF (runP.eq_1 ..) ?_
 have:=Veo s i gk;refine gO (tn 6 (kc (Vk4 s i ky ky ky) (tn 4 (kp (ib s i kv) (tn 2 (kj (((byt s (Int.toNat i):Nat):Int)==126) (tn 2 (hn (λh=>by have j0:=h.2;have j0p:=eq_of_beq j0;exact(wrE ((runE s i)-i) ((runE s i)-i) kv)) (tn 1 z))) z z)))))) ?_;refine CS (λh1=>?_) (λh1=>?_)
 ·obtain⟨h1a,h1o⟩:=Va9 h1
  have h1ap:=eq_of_beq h1a
  have h1op:=bne_iff_ne.1 h1o;refine gO (kb h1 (tn 4 (kc (Vci s i (runE s i) ky ky ky ky) (tn 2 z)))) ?_;exact EN kx
 ·have:=Vag s (Int.toNat i) (Int.toNat (i+1));refine gO (kb h1 (tn 4 (kn (wrE (i+1) (i+1) kv) (kp (show 0<=(i:Int)/\(i:Int)<=i+1/\i+1<=((ByteArray.size s:Nat):Int)from(by first|omega|(simp only[Va6,true_and];omega))) (tn 4 (kc (Vcf s (runE s i) ky ky ky) (tn 9 (kc (befI_to s i ky ky ky) (tn 1 (kc (flkB_to (ByteArray.extract s (Int.toNat i) (Int.toNat (i+1))) (befI s i) ((nxtN s (runE s i)).1)) (tn 8 (kn (wrE ((runE s i)-i) ((runE s i)-i) kv) (tn 6 z))))))))))))) ?_;exact EN kx
theorem bytI_lt(s:ByteArray)(j:Nat):0<=((byt s j:Nat):Int)/\((byt s j:Nat):Int)<256:=by
 show 0<=(((s.data.getD j 0).toNat:Nat):Int)/\(((s.data.getD j 0).toNat:Nat):Int)<256
 have:=(s.data.getD j 0).toNat_lt;omega
theorem size_push(s:ByteArray)(b:UInt8):(s.push b).size=s.size+1:=by simp
theorem Vih(s:ByteArray)(i:Int)(h:0<=i/\i<s.size):i<=cond (escL s i) (i+1) i/\cond (escL s i) (i+1) i<s.size:=by
 cases he:escL s i with
 |false=>simp only[cond_false];omega
 | true=>
  simp only[cond_true];refine⟨by omega,?_⟩;unfold escL at he
  by_cases h2:i+1<(s.size:Int)
  ·exact h2
  ·exfalso
   have hd:decide ((i+1:Int)<((ByteArray.size s:Nat):Int))=false:=decide_eq_false h2;simp[hd]at he
def uneS_L0(s:ByteArray):Nat->Int->ByteArray->ByteArray
 |0,_,_=>default
 |n0+1,v4,vb3_1=>cond (decide ((v4:Int)<((ByteArray.size s:Nat):Int))) (uneS_L0 s n0 ((cond (escL s v4) (v4+1) v4)+1) (ByteArray.push vb3_1 (u8 ((byt s (Int.toNat (cond (escL s v4) (v4+1) v4)):Nat):Int)))) vb3_1
def uneS(s:ByteArray):ByteArray:=uneS_L0 s ((s.size-Int.toNat 0)+1) 0 (⟨#[]⟩)
theorem uneS_to(s:ByteArray)(hs:s.size<=1073741824)(h0:0<s.size):Va2 Tryz.prog 280 [(jS s)] [] [] (jS (uneS s)) [] []:=by
 refine BEG (λr:ByteArray=>(jS r)) (uneS s) Tryz.func280 kx ?_;refine UF (uneS.eq_1 ..) ?_;refine GO (tn 2 (kq 2 z)) kx ?_;refine RT [(3,0,(.son 3)),(3,1,(.own (1300,6) 0 1 (Va8 (⟨#[]⟩))))] (ac (show(AV.val (.pointer none))=.val (.pointer none)from rfl) (ac (show(Va8 ⟨#[]⟩:List AV)=[]/\0<6/\(0:Nat)=0 from⟨rfl,by decide,rfl⟩) an)) kx ?_;refine GO (tn 1 z) kx ?_;refine LP (λN M S=>∃ v4:Int,∃gvb3_1:Nat,∃vb3_1:ByteArray,(0<=v4/\v4<=s.size)/\((vb3_1.size:Int)<=v4/\(0<v4->0<vb3_1.size))/\(s.size-Int.toNat v4<N)/\M=uneS_L0 s N v4 vb3_1/\S=(sx 21 [(0,(jS s)),(3,(.ptr 3 0)),(4,(jI v4))] [(3,(.cells 80 [(.son 3),(.own (1300,6) gvb3_1 1 (Va8 vb3_1))]))] [((1300,6),gvb3_1)])) kx ⟨_,0,_,by omega,⟨by decide,by omega⟩,by omega,rfl,rfl⟩ (WK kx) ?_;rintro n0 M S ⟨v4,gvb3_1,vb3_1,hv,hz,hF0,rfl,rfl⟩;obtain⟨n0,rfl⟩:∃ k,n0=k+1:=⟨n0-1,by omega⟩
 refine UF (uneS_L0.eq_2 ..) ?_;refine GO (tn 4 z) kx ?_;refine CSd (λh1p h1=>?_) (λh1p h1=>?_)
 ·have:=Vih s v4 kv
  have:=Vnz (escL s v4) (v4+1) v4;refine GO (kb h1 (tn 2 (kc (Vnt s v4 ky ky ky) (ks (escL s v4) [4] (tn 1 (hn (λh=>by have j0:=h.2;exact(wrE (v4+1) (v4+1) kv)) (tn 1 z))) z (tn 2 (kp (ib s (cond (escL s v4) (v4+1) v4) kv) (kg (Vaa (Vaf (3,0) (1000,0) rfl) (Vdw vb3_1 ((byt s (Int.toNat (cond (escL s v4) (v4+1) v4)):Nat):Int) gvb3_1 ky (bytI_lt _ _))) (show(gvb3_1:Nat)=gvb3_1/\True from⟨rfl,trivial⟩) (tn 1 (kn (wrE ((cond (escL s v4) (v4+1) v4)+1) ((cond (escL s v4) (v4+1) v4)+1) kv) (tn 1 z)))))))))) kx ?_;exact AG ⟨_,gvb3_1+1,_,by omega,by rw[size_push];omega,by omega,rfl,rfl⟩ (WK kx) kx (Zb _)
 ·refine GO (kb h1 z) kx ?_;refine OUT (kg (Vaa (Vaf (3,0) (1000,0) rfl) (Vlb (.son 1000) 1300 gvb3_1 vb3_1 kv kv)) (show(gvb3_1:Nat)=gvb3_1/\True from⟨rfl,trivial⟩) (tn 1 z)) kx ?_;exact EN kx
theorem Vmx(s:ByteArray)(hs:s.size<=1073741824):Va2 Tryz.prog 280 [jS s] [] [] (jS (uneS s)) [] []:=by
 by_cases h0:0<s.size
 ·exact uneS_to s hs h0
 ·obtain rfl:=size0 (s:=s) kv
  have e:uneS ⟨#[]⟩=⟨#[]⟩:=rfl;rw[e]
  have hst:Va2 Tryz.prog 38 [.ptr 3 0] [(3,.cells 80 [.av (.val (.pointer none)),.nil])] [] (jS ⟨#[]⟩) [(3,.cells 80 [.av (.val (.pointer none)),.nil])] []:=Vcq kx (Vaa (Vaf (3,0) (1000,0) rfl) (Vmo (.av (.val (.pointer none)))));refine bG Tryz.func280 ?_;refine gO (tn 3 z) ?_;refine uN (sx 21 [(0,jS ⟨#[]⟩),(3,.ptr 3 0),(4,jI 0)] [(3,.cells 80 [.av (.val (.pointer none)),.nil])] []) 1 ?_;refine gO (tn 4 (kb (b:=false) (d:=false) rfl z)) ?_;refine UO (kg hst trivial (tn 1 z)) kx ?_;exact eN
theorem Vlw(s:ByteArray):∀(n:Nat)(v:Int)(b:ByteArray),0<=v->v<=s.size->s.size-v.toNat<n->((uneS_L0 s n v b).size:Int)<=b.size+(s.size-v)
 |0,v,b,_,_,h=>by omega
 |n+1,v,b,h0,h1,h2=>by
  rw[uneS_L0];refine Va5 (λr:ByteArray=>((r.size:Int)<=b.size+(s.size-v))) (λq=>?_) (λq=>by omega)
  have q2:=of_decide_eq_true q
  have hb:=Vih s v kv
  have ih:=Vlw s n ((cond (escL s v) (v+1) v)+1) (ByteArray.push b (u8 ((byt s (Int.toNat (cond (escL s v) (v+1) v)):Nat):Int))) kv kv kv;rw[size_push]at ih;omega
theorem Vjr(s:ByteArray):(uneS s).size<=s.size:=by
 have:=Vlw s ((s.size-Int.toNat 0)+1) 0 ⟨#[]⟩ kv kv kv
 have e0:(⟨#[]⟩:ByteArray).size=0:=rfl;unfold uneS;rw[e0]at this;omega
theorem opn_step(e a b:Bool)(v lo:Int)(h:lo<=v):lo-1<=cond e v (cond a (v+1) (cond b (v-1) v)):=by
 cases e <;>cases a <;>cases b <;>simp <;>omega
def angS_L0(s:ByteArray)(i:Int):Nat->Int->(ByteArray×Int×Bool)
 |0,_=>default
 |n0+1,v7=>cond (decide ((v7:Int)<((ByteArray.size s:Nat):Int))) (cond (escL s v7) (angS_L0 s i n0 ((v7+1)+1)) (cond (((byt s (Int.toNat v7):Nat):Int)==62) (uneS (ByteArray.extract s (Int.toNat (i+1)) (Int.toNat v7)),v7+1,true) (cond (cond (((byt s (Int.toNat v7):Nat):Int)==60) (((byt s (Int.toNat v7):Nat):Int)==60) (((byt s (Int.toNat v7):Nat):Int)==10)) (⟨#[]⟩,0,false) (angS_L0 s i n0 (v7+1))))) (⟨#[]⟩,0,false)
def angS(s:ByteArray)(i:Int):(ByteArray×Int×Bool):=angS_L0 s i ((s.size-Int.toNat (i+1))+1) (i+1)
theorem angS_to(s:ByteArray)(i:Int)(hs:s.size<=1073741824)(h0:0<=i)(h1:i<s.size):Va2 Tryz.prog 278 [(jS s),(jI i)] [] [] (.av (.tup [(vS ((angS s i).1)),(vI ((angS s i).2.1)),(vB ((angS s i).2.2))])) [] []:=by
 refine BEG (λr:(ByteArray×Int×Bool)=>(.av (.tup [(vS r.1),(vI r.2.1),(vB r.2.2)]))) (angS s i) Tryz.func278 kx ?_;refine UF (angS.eq_1 ..) ?_;refine gO (tn 4 (kn (wrE (i+1) (i+1) kv) (tn 1 z))) ?_;refine LP (λN M S=>∃ v7:Int,(0<=v7/\i+1<=v7/\v7<=s.size+1)/\(s.size-Int.toNat v7<N)/\M=angS_L0 s i N v7/\S=(sx 44 [(0,(jS s)),(1,(jI i)),(7,(jI v7))] [] [])) kx ⟨_,by first|omega|assumption|(simp only[Va6];omega)|(simp;done)|(simp;omega),by omega,rfl,rfl⟩ (WK kx) ?_;rintro n0 M S ⟨v7,hv,hF0,rfl,rfl⟩;obtain⟨n0,rfl⟩:∃ k,n0=k+1:=⟨n0-1,by omega⟩
 refine UF (angS_L0.eq_2 ..) ?_;refine gO (tn 4 z) ?_;refine CSd (λh1p h1=>?_) (λh1p h1=>?_)
 ·have:=Vih s v7 kv;refine gO (kb h1 (tn 2 (kc (Vnt s v7 ky ky ky) (tn 1 z)))) ?_;refine CS (λh2=>?_) (λh2=>?_)
  ·refine gO (kb h2 (tn 1 (kn (wrE (v7+1) (v7+1) kv) (tn 2 (kn (wrE ((v7+1)+1) ((v7+1)+1) kv) (tn 1 z)))))) ?_;exact AG ⟨_,by first|omega|assumption|(simp only[Va6];omega)|(simp;done)|(simp;omega),by omega,rfl,rfl⟩ (WK kx) kx (Zb _)
  ·refine gO (kb h2 (tn 2 (kp (ib s v7 kv) (tn 2 z)))) ?_;refine CSe (λh3p h3=>?_) (λh3p h3=>?_)
   ·have:=Vag s (Int.toNat (i+1)) (Int.toNat v7)
    have:=Vjr (ByteArray.extract s (Int.toNat (i+1)) (Int.toNat v7));refine gO (kb h3 (tn 2 (kn (wrE (i+1) (i+1) kv) (tn 1 (kp (show 0<=(i+1:Int)/\(i+1:Int)<=v7/\v7<=((ByteArray.size s:Nat):Int)from(by first|omega|(simp only[Va6,true_and];omega))) (kc (Vmx (ByteArray.extract s (Int.toNat (i+1)) (Int.toNat v7)) ky) (tn 1 (kn (wrE (v7+1) (v7+1) kv) (tn 3 z))))))))) ?_;refine OUT z kx ?_;exact EN kx
   ·refine gO (kb h3 (tn 2 (kp (ib s v7 kv) (tn 2 (ks (((byt s (Int.toNat v7):Nat):Int)==60) [35] z (tn 2 (hp (λh=>by have j0:=h.2;have j0p:=ne_of_beq_false j0;exact(ib s v7 kv)) (tn 2 z))) z))))) ?_;refine CS (λh4=>?_) (λh4=>?_)
    ·refine gO (kb h4 (tn 3 z)) ?_;refine OUT z kx ?_;exact EN kx
    ·refine gO (kb h4 (tn 1 (kn (wrE (v7+1) (v7+1) kv) (tn 1 z)))) ?_;exact AG ⟨_,by first|omega|assumption|(simp only[Va6];omega)|(simp;done)|(simp;omega),by omega,rfl,rfl⟩ (WK kx) kx (Zb _)
 ·refine gO (kb h1 z) ?_;refine OUT (tn 3 z) kx ?_;exact EN kx
def quoS_L0(s:ByteArray)(i:Int)(last:Int):Nat->Int->(ByteArray×Int×Bool)
 |0,_=>default
 |n0+1,v9=>cond (decide ((v9:Int)<((ByteArray.size s:Nat):Int))) (cond (escL s v9) (quoS_L0 s i last n0 ((v9+1)+1)) (cond (((byt s (Int.toNat v9):Nat):Int)==last) (uneS (ByteArray.extract s (Int.toNat (i+1)) (Int.toNat v9)),v9+1,true) (cond (((byt s (Int.toNat v9):Nat):Int)==10) (⟨#[]⟩,0,false) (quoS_L0 s i last n0 (v9+1))))) (⟨#[]⟩,0,false)
def quoS(s:ByteArray)(i:Int)(last:Int):(ByteArray×Int×Bool):=quoS_L0 s i last ((s.size-Int.toNat (i+1))+1) (i+1)
theorem quoS_to(s:ByteArray)(i:Int)(last:Int)(hs:s.size<=1073741824)(h0:0<=i)(h1:i<s.size):Va2 Tryz.prog 281 [(jS s),(jI i),(.av (.val (.int .u8 last)))] [] [] (.av (.tup [(vS ((quoS s i last).1)),(vI ((quoS s i last).2.1)),(vB ((quoS s i last).2.2))])) [] []:=by
 refine BEG (λr:(ByteArray×Int×Bool)=>(.av (.tup [(vS r.1),(vI r.2.1),(vB r.2.2)]))) (quoS s i last) Tryz.func281 kx ?_;refine UF (quoS.eq_1 ..) ?_;refine gO (tn 4 (kn (wrE (i+1) (i+1) kv) (tn 1 z))) ?_;refine LP (λN M S=>∃ v9:Int,(0<=v9/\i+1<=v9/\v9<=s.size+1)/\(s.size-Int.toNat v9<N)/\M=quoS_L0 s i last N v9/\S=(sx 43 [(0,(jS s)),(1,(jI i)),(2,(.av (.val (.int .u8 last)))),(9,(jI v9))] [] [])) kx ⟨_,by first|omega|assumption|(simp only[Va6];omega)|(simp;done)|(simp;omega),by omega,rfl,rfl⟩ (WK kx) ?_;rintro n0 M S ⟨v9,hv,hF0,rfl,rfl⟩;obtain⟨n0,rfl⟩:∃ k,n0=k+1:=⟨n0-1,by omega⟩
 refine UF (quoS_L0.eq_2 ..) ?_;refine gO (tn 4 z) ?_;refine CSd (λh1p h1=>?_) (λh1p h1=>?_)
 ·have:=Vih s v9 kv;refine gO (kb h1 (tn 2 (kc (Vnt s v9 ky ky ky) (tn 1 z)))) ?_;refine CS (λh2=>?_) (λh2=>?_)
  ·refine gO (kb h2 (tn 1 (kn (wrE (v9+1) (v9+1) kv) (tn 2 (kn (wrE ((v9+1)+1) ((v9+1)+1) kv) (tn 1 z)))))) ?_;exact AG ⟨_,by first|omega|assumption|(simp only[Va6];omega)|(simp;done)|(simp;omega),by omega,rfl,rfl⟩ (WK kx) kx (Zb _)
  ·refine gO (kb h2 (tn 2 (kp (ib s v9 kv) (tn 3 z)))) ?_;refine CSe (λh3p h3=>?_) (λh3p h3=>?_)
   ·have:=Vag s (Int.toNat (i+1)) (Int.toNat v9)
    have:=Vjr (ByteArray.extract s (Int.toNat (i+1)) (Int.toNat v9));refine gO (kb h3 (tn 2 (kn (wrE (i+1) (i+1) kv) (tn 1 (kp (show 0<=(i+1:Int)/\(i+1:Int)<=v9/\v9<=((ByteArray.size s:Nat):Int)from(by first|omega|(simp only[Va6,true_and];omega))) (kc (Vmx (ByteArray.extract s (Int.toNat (i+1)) (Int.toNat v9)) ky) (tn 1 (kn (wrE (v9+1) (v9+1) kv) (tn 3 z))))))))) ?_;refine OUT z kx ?_;exact EN kx
   ·refine gO (kb h3 (tn 2 (kp (ib s v9 kv) (tn 2 z)))) ?_;refine CSe (λh4p h4=>?_) (λh4p h4=>?_)
    ·refine gO (kb h4 (tn 3 z)) ?_;refine OUT z kx ?_;exact EN kx
    ·refine gO (kb h4 (tn 1 (kn (wrE (v9+1) (v9+1) kv) (tn 1 z)))) ?_;exact AG ⟨_,by first|omega|assumption|(simp only[Va6];omega)|(simp;done)|(simp;omega),by omega,rfl,rfl⟩ (WK kx) kx (Zb _)
 ·refine gO (kb h1 z) ?_;refine OUT (tn 3 z) kx ?_;exact EN kx
def dstG_L0(s:ByteArray)(i:Int):Nat->Int->Int->(ByteArray×Int×Bool)
 |0,_,_=>default
 |n0+1,v7,v8=>cond (decide ((v8:Int)<((ByteArray.size s:Nat):Int))) (cond (cond (cond (((byt s (Int.toNat v8):Nat):Int)==32) true (((byt s (Int.toNat v8):Nat):Int)==10)) true (cond (((byt s (Int.toNat v8):Nat):Int)==41) ((v7:Int)==0) false)) (cond (cond ((v8:Int)==i) true (decide ((v7:Int)>0))) (⟨#[]⟩,0,false) (uneS (ByteArray.extract s (Int.toNat i) (Int.toNat v8)),v8,true)) (cond (decide ((cond (escL s v8) v7 (cond (((byt s (Int.toNat v8):Nat):Int)==40) (v7+1) (cond (((byt s (Int.toNat v8):Nat):Int)==41) (v7-1) v7)):Int)>8)) (⟨#[]⟩,0,false) (dstG_L0 s i n0 (cond (escL s v8) v7 (cond (((byt s (Int.toNat v8):Nat):Int)==40) (v7+1) (cond (((byt s (Int.toNat v8):Nat):Int)==41) (v7-1) v7))) ((cond (escL s v8) (v8+1) v8)+1)))) (cond (cond ((v8:Int)==i) true (decide ((v7:Int)>0))) (⟨#[]⟩,0,false) (uneS (ByteArray.extract s (Int.toNat i) (Int.toNat v8)),v8,true))
def dstG(s:ByteArray)(i:Int):(ByteArray×Int×Bool):=cond (cond (decide ((i:Int)<0)) true (decide ((i:Int)>=((ByteArray.size s:Nat):Int)))) (⟨#[]⟩,0,false) (cond (((byt s (Int.toNat i):Nat):Int)==60) ((angS s i).1,(angS s i).2.1,(angS s i).2.2) (dstG_L0 s i ((s.size-Int.toNat i)+1) 0 i))
theorem dstG_to(s:ByteArray)(i:Int)(hs:s.size<=1073741824)(h0:0<=i)(h1:i<=1073741833):Va2 Tryz.prog 239 [(jS s),(jI i)] [] [] (.av (.tup [(vS ((dstG s i).1)),(vI ((dstG s i).2.1)),(vB ((dstG s i).2.2))])) [] []:=by
 refine BEG (λr:(ByteArray×Int×Bool)=>(.av (.tup [(vS r.1),(vI r.2.1),(vB r.2.2)]))) (dstG s i) Tryz.func239 kx ?_;refine UF (dstG.eq_1 ..) ?_;refine gO (tn 6 (kj (decide ((i:Int)<0)) z (tn 4 z) z)) ?_;refine CS (λh1=>?_) (λh1=>?_)
 ·refine gO (kb h1 (tn 3 z)) ?_;exact EN kx
 ·obtain⟨h1a,h1o⟩:=Vae h1
  have h1ap:=of_decide_eq_false h1a
  have h1op:=of_decide_eq_false h1o;refine gO (kb h1 (tn 2 (kp (ib s i kv) (tn 1 z)))) ?_;refine CSe (λh2p h2=>?_) (λh2p h2=>?_)
  ·refine gO (kb h2 (tn 2 (kc (angS_to s i ky ky ky) (tn 6 z)))) ?_;exact EN kx
  ·refine gO (kb h2 (tn 3 z)) ?_;refine LP (λN M S=>∃ v7:Int,∃v8:Int,(i<=v8/\v8<=s.size)/\(i-v8<=v7/\v7<=8)/\(s.size-Int.toNat v8<N)/\M=dstG_L0 s i N v7 v8/\S=(sx 83 [(0,(jS s)),(1,(jI i)),(7,(jI v7)),(8,(jI v8))] [] [])) kx ⟨_,_,by omega,by omega,by omega,rfl,rfl⟩ (WK kx) ?_;rintro n0 M S ⟨v7,v8,hv,ho,hF0,rfl,rfl⟩;obtain⟨n0,rfl⟩:∃ k,n0=k+1:=⟨n0-1,by omega⟩
   refine UF (dstG_L0.eq_2 ..) ?_;refine gO (tn 4 z) ?_;refine CSd (λh3p h3=>?_) (λh3p h3=>?_)
   ·refine gO (kb h3 (tn 2 (kp (ib s v8 kv) (tn 4 (kj (((byt s (Int.toNat v8):Nat):Int)==32) z (tn 2 z) (tn 1 (kj (cond (((byt s (Int.toNat v8):Nat):Int)==32) true (((byt s (Int.toNat v8):Nat):Int)==10)) z (tn 3 (kj (((byt s (Int.toNat v8):Nat):Int)==41) (tn 2 z) z z)) z))))))) ?_;refine CS (λh4=>?_) (λh4=>?_)
    ·refine gO (kb h4 z) ?_;refine OUT (tn 4 (kj ((v8:Int)==i) z (tn 2 z) z)) kx ?_;refine CS (λh5=>?_) (λh5=>?_)
     ·refine gO (kb h5 (tn 3 z)) ?_;exact EN kx
     ·obtain⟨h5a,h5o⟩:=Vae h5
      have h5ap:=ne_of_beq_false h5a
      have h5op:=of_decide_eq_false h5o
      have:=Vag s (Int.toNat i) (Int.toNat v8)
      have:=Vjr (ByteArray.extract s (Int.toNat i) (Int.toNat v8));refine gO (kb h5 (tn 3 (kp (show 0<=(i:Int)/\(i:Int)<=v8/\v8<=((ByteArray.size s:Nat):Int)from(by first|omega|(simp only[Va6,true_and];omega))) (kc (Vmx (ByteArray.extract s (Int.toNat i) (Int.toNat v8)) ky) (tn 4 z))))) ?_;exact EN kx
    ·obtain⟨h4a,h4o⟩:=Vae h4;obtain⟨h4aa,h4ao⟩:=Vae h4a
     have h4aap:=ne_of_beq_false h4aa
     have h4aop:=ne_of_beq_false h4ao
     have:=Vih s v8 kv
     have:=Vnz (escL s v8) v7 (cond (((byt s (Int.toNat v8):Nat):Int)==40) (v7+1) (cond (((byt s (Int.toNat v8):Nat):Int)==41) (v7-1) v7))
     have:=Vnz (escL s v8) (v8+1) v8;refine gO (kb h4 (tn 2 (kc (Vnt s v8 ky ky ky) (tn 1 (ks (escL s v8) [7,8] (tn 1 (hn (λh=>by have j0:=h.2;exact(wrE (v8+1) (v8+1) kv)) (tn 1 z))) (tn 3 (ks (((byt s (Int.toNat v8):Nat):Int)==40) [7] (tn 1 (hn (λh=>by have j0:=h.1.2;have j1:=h.2;have j1p:=eq_of_beq j1;exact(wrE (v7+1) (v7+1) kv)) (tn 1 z))) (tn 3 (ks (((byt s (Int.toNat v8):Nat):Int)==41) [7] (tn 1 (hn (λh=>by have j0:=h.1.1.2;have j1:=h.1.2;have j1p:=ne_of_beq_false j1;have j2:=h.2;have j2p:=eq_of_beq j2;exact(wrE (v7-1) (v7-1) kv)) (tn 1 z))) z z)) z)) (tn 2 z)))))) ?_;refine CSd (λh6p h6=>?_) (λh6p h6=>?_)
     ·refine gO (kb h6 (tn 3 z)) ?_;refine OUT z kx ?_;exact EN kx
     ·refine gO (kb h6 (tn 1 (kn (wrE ((cond (escL s v8) (v8+1) v8)+1) ((cond (escL s v8) (v8+1) v8)+1) kv) (tn 1 z)))) ?_;exact AG ⟨_,_,by omega,by(refine⟨?_,by omega⟩;have hq:=opn_step (escL s v8) (((byt s (Int.toNat v8):Nat):Int)==40) (((byt s (Int.toNat v8):Nat):Int)==41) v7 (i-v8) kv;omega),by omega,rfl,rfl⟩ (WK kx) kx (Zb _)
   ·refine gO (kb h3 z) ?_;refine OUT (tn 4 (kj ((v8:Int)==i) z (tn 2 z) z)) kx ?_;refine CS (λh7=>?_) (λh7=>?_)
    ·refine gO (kb h7 (tn 3 z)) ?_;exact EN kx
    ·obtain⟨h7a,h7o⟩:=Vae h7
     have h7ap:=ne_of_beq_false h7a
     have h7op:=of_decide_eq_false h7o
     have:=Vag s (Int.toNat i) (Int.toNat v8)
     have:=Vjr (ByteArray.extract s (Int.toNat i) (Int.toNat v8));refine gO (kb h7 (tn 3 (kp (show 0<=(i:Int)/\(i:Int)<=v8/\v8<=((ByteArray.size s:Nat):Int)from(by first|omega|(simp only[Va6,true_and];omega))) (kc (Vmx (ByteArray.extract s (Int.toNat i) (Int.toNat v8)) ky) (tn 4 z))))) ?_;exact EN kx
theorem cutM_sz(s:ByteArray):(cutM s).1.size<=s.size:=by
 unfold cutM ctlM;refine Va5 (λr:ByteArray×ByteArray×Bool=>r.1.size<=s.size) (λ_=>?_) (λ_=>Nat.le_refl _);simp only[Zh];omega
def brkM(s:ByteArray)(i:Int):(ByteArray×Int×Bool):=cond (cond (decide ((i:Int)>=((ByteArray.size s:Nat):Int))) true (((byt s (Int.toNat i):Nat):Int) !=91)) (⟨#[]⟩,0,false) (cond (cond (!(cutM (ByteArray.extract s (Int.toNat (i+1)) (ByteArray.size s))).2.2) true (eqs (lblM ((cutM (ByteArray.extract s (Int.toNat (i+1)) (ByteArray.size s))).1)) (⟨#[]⟩))) (⟨#[]⟩,0,false) (lblM ((cutM (ByteArray.extract s (Int.toNat (i+1)) (ByteArray.size s))).1),(i+((ByteArray.size ((cutM (ByteArray.extract s (Int.toNat (i+1)) (ByteArray.size s))).1):Nat):Int))+2,true))
theorem brkM_to(s:ByteArray)(i:Int)(hs:s.size<=100000000)(h0:0<=i)(h1:i<=1073741833):Va2 Tryz.prog 237 [(jS s),(jI i)] [] [] (.av (.tup [(vS ((brkM s i).1)),(vI ((brkM s i).2.1)),(vB ((brkM s i).2.2))])) [] []:=by
 refine BEG (λr:(ByteArray×Int×Bool)=>(.av (.tup [(vS r.1),(vI r.2.1),(vB r.2.2)]))) (brkM s i) Tryz.func237 kx ?_;refine UF (brkM.eq_1 ..) ?_;refine gO (tn 8 (kj (decide ((i:Int)>=((ByteArray.size s:Nat):Int))) z (tn 2 (hp (λh=>by have j0:=h.2;have j0p:=of_decide_eq_false j0;exact(ib s i kv)) (tn 1 z))) z)) ?_;refine CS (λh1=>?_) (λh1=>?_)
 ·refine gO (kb h1 (tn 3 z)) ?_;exact EN kx
 ·obtain⟨h1a,h1o⟩:=Vae h1
  have h1ap:=of_decide_eq_false h1a
  have h1op:=Vah h1o
  have:=Vag s (Int.toNat (i+1)) (ByteArray.size s)
  have:=cutM_sz (ByteArray.extract s (Int.toNat (i+1)) (ByteArray.size s))
  have:=lblM_sz ((cutM (ByteArray.extract s (Int.toNat (i+1)) (ByteArray.size s))).1);refine gO (kb h1 (tn 2 (kn (wrE (i+1) (i+1) kv) (kp (show 0<=(i+1:Int)/\(i+1:Int)<=((ByteArray.size s:Nat):Int)/\((ByteArray.size s:Nat):Int)<=((ByteArray.size s:Nat):Int)from(by first|omega|(simp only[Va6,true_and];omega))) (kc (cutM_to (ByteArray.extract s (Int.toNat (i+1)) (ByteArray.size s)) ky) (tn 8 (kc (lblM_to ((cutM (ByteArray.extract s (Int.toNat (i+1)) (ByteArray.size s))).1) ky) (tn 4 (kj (!(cutM (ByteArray.extract s (Int.toNat (i+1)) (ByteArray.size s))).2.2) z (tn 2 z) z))))))))) ?_;refine CS (λh2=>?_) (λh2=>?_)
  ·refine gO (kb h2 (tn 3 z)) ?_;exact EN kx
  ·obtain⟨h2a,h2o⟩:=Vae h2
   have h2an:=notf h2a
   have h2oz:=Vlz h2o;refine gO (kb h2 (tn 4 (kn (wrE (i+((ByteArray.size ((cutM (ByteArray.extract s (Int.toNat (i+1)) (ByteArray.size s))).1):Nat):Int)) (i+((ByteArray.size ((cutM (ByteArray.extract s (Int.toNat (i+1)) (ByteArray.size s))).1):Nat):Int)) kv) (kn (wrE ((i+((ByteArray.size ((cutM (ByteArray.extract s (Int.toNat (i+1)) (ByteArray.size s))).1):Nat):Int))+2) ((i+((ByteArray.size ((cutM (ByteArray.extract s (Int.toNat (i+1)) (ByteArray.size s))).1):Nat):Int))+2) kv) (tn 3 z))))) ?_;exact EN kx
def BYi(s:ByteArray)(i:Int):Int:=((byt s (Int.toNat i):Nat):Int)
def e0:ByteArray:=⟨#[]⟩
theorem ib(s:ByteArray)(i:Int)(h:0<=i/\i<(s.size:Int)):0<=i/\i<((ByteArray.size s:Nat):Int):=h
def titM(s:ByteArray)(i:Int):ByteArray×Int×Bool:=cond (BYi s i==34) (quoS s i 34) (cond (BYi s i==39) (quoS s i 39) (e0,0,false))
def tiL:List AV:=[b8 34,b8 34,b8 39,b8 39]
def tiS(s:ByteArray)(i k:Int):St:=sx 38 [(0,jS s),(1,jI i),(19,.av (.agg tiL)),(20,jI k)] [] []
theorem titM_to(s:ByteArray)(i:Int)(hs:s.size<=1073741824)(h0:0<=i)(h1:i<s.size):Va2 Tryz.prog 240 [jS s,jI i] [] [] (.av (.tup [vS (titM s i).1,vI (titM s i).2.1,vB (titM s i).2.2])) [] []:=by
 have d1:decide (i<0)=false:=decide_eq_false kv
 have d2:decide (i>=((ByteArray.size s:Nat):Int))=false:=decide_eq_false kv
 have a0:0<=(0:Int)/\(0:Int)<(2:Nat)/\(0:Int).toNat*2+2<=tiL.length/\0<2:=by decide
 have a1:0<=(1:Int)/\(1:Int)<(2:Nat)/\(1:Int).toNat*2+2<=tiL.length/\0<2:=by decide
 have hi:=ib s i ⟨h0,h1⟩
 have c0:0<=(0:Int)/\(0:Int)<((2:Nat):Int):=by decide
 have c1:0<=(1:Int)/\(1:Int)<((2:Nat):Int):=by decide
 have w0:=wrE ((0:Int)+1) 1 kv
 have w1:=wrE ((1:Int)+1) 2 kv;refine BEG (λr:ByteArray×Int×Bool=>.av (.tup [vS r.1,vI r.2.1,vB r.2.2])) (titM s i) Tryz.func240 kx ?_;refine UF (titM.eq_1 ..) ?_;refine gO (tn 6 (kb d1 (tn 1 (kb d1 (tn 1 (kb d1 (tn 1 (kb d1 (tn 1 (kb d1 (kb d2 (tn 4 z)))))))))))) ?_;refine UN (tiS s i 0) 3 kx (WK kx) ?_;refine gO (tn 1 (kb tt (kp a0 (tn 2 z)))) ?_;refine DR3 (tn 2 (kp hi (kp c0 (tn 2 z)))) kx kx kx ?_;refine CS (λq0=>?_) (λq0=>?_)
 ·have hq:=quoS_to s i 34 hs h0 h1;refine gO (kb q0 (tn 2 (kp c1 (tn 1 (kc hq (tn 6 z)))))) ?_;refine UO z kx ?_;exact EN kx
 ·refine gO (kb q0 (kn w0 (tn 1 z))) ?_;refine UA (tiS s i 1) kx (WK kx) ?_;refine gO (tn 1 (kb tt (kp a1 (tn 2 z)))) ?_;refine DR3 (tn 2 (kp hi (kp c0 (tn 2 z)))) kx kx kx ?_;refine CS (λq1=>?_) (λq1=>?_)
  ·have hq:=quoS_to s i 39 hs h0 h1;refine gO (kb q1 (tn 2 (kp c1 (tn 1 (kc hq (tn 6 z)))))) ?_;refine UO z kx ?_;exact EN kx
  ·refine gO (kb q1 (kn w1 (tn 1 z))) ?_;refine UA (tiS s i 2) kx (WK kx) ?_;refine gO (tn 1 (kb ff z)) ?_;refine UO (tn 3 z) kx ?_;exact EN kx
end Go.Proofs.YthbpjmogdonlkaaGreatDoor
namespace Go.Proofs.YthbpjmogdonlkaaGreatDoor
open Go Go.Eng Go.RowKit
theorem extra155:Builder.Extra Tryz.prog Tryz.lays155_ren where
 sizeBuilder:=by kernel_rfl
 liesBuilder:=by kernel_rfl
 t5:=Tryz.underlying5
 a5:=Tryz.isAgg5
 z5:=Tryz.sizeOf5
 v5:=Tryz.zeroValue5
 infoByte:=by kernel_rfl
 cellsByte:=by kernel_rfl
 sizeByte:=by kernel_rfl
 neB5:=by decide
def glM(m:Int):Nat×ABox:=(1998,.gl 2 [.int .i64 m])
def LF1:ByteArray:=⟨#[10]⟩
def SP1:ByteArray:=⟨#[32]⟩
def rplM(s:ByteArray):ByteArray:=⟨(Lib.replaceAll s.data.toList [10] [32]).toArray⟩
theorem idx1_lt:∀(l:List UInt8),Lib.index l [10]= -1\/(0<=Lib.index l [10]/\Lib.index l [10]<l.length)
 |[]=>.inl rfl
 | b::l=>by
  have h:=idx1_lt l;simp only[Lib.index]
  split
  ·right;simp only[Zm];omega
  ·split
   ·exact .inl rfl
   ·rename_i h2
    have h2:Lib.index l [10]≠ -1:=by simpa using h2
    right;simp only[Zm];omega
theorem rplK_len:∀(k:Nat)(l:List UInt8),(Lib.replaceK [10] [32] k l).length<=l.length
 |0,l=>Nat.le_refl _
 | k+1,l=>by
  have h:=idx1_lt l;rw[Lib.replaceK]
  split
  ·exact Nat.le_refl _
  ·rename_i h2
   have h2:Lib.index l [10]≠ -1:=by simpa using h2
   have ih:=rplK_len k (l.drop ((Lib.index l [10]).toNat+[(10:UInt8)].length));simp only[List.length_drop,List.length_append,List.length_take,Zm,Z4]at ih ⊢;omega
theorem rplM_sz(s:ByteArray):(rplM s).size<=s.size:=by
 show(Lib.replaceAll s.data.toList [10] [32]).toArray.size<=_;rw[Zu];unfold Lib.replaceAll Lib.replace;rw[if_neg gj];exact Nat.le_trans (rplK_len _ _) ku
theorem args3S{G:Gh}{w:World}{s t r:ByteArray}{us:List Value}(h:RepSs G w [jS s,jS t,jS r] us):us.toArray=#[.string s,.string t,.string r]:=by
 obtain⟨u,l,rfl,h1,u2,l2,rfl,h3,u3,l3,rfl,h5,h6⟩:=h
 have h7:l3=[]:=h6;subst h7;rw[h1.1,h3.1,h5.1]
theorem rplM_to(s:ByteArray)(m:Int)(hs:s.size<=1073741824):Va2 Tryz.prog 231 [jS s,jS LF1,jS SP1] [glM m] [] (jS (rplM s)) [glM m] []:=by
 refine⟨⟨Tryz.f231,Tryz.func231,by kernel_rfl,by kernel_rfl⟩,λG w us hw hr hbx _=>?_⟩;rw[args3S hr];obtain⟨e,mm,ho,hh⟩:=hbx (glM m) ku
 have hm:w.cell? ⟨2,0,none⟩=some (.int .i64 m):=by simp only[World.cell?,hh];rfl
 have hc:=Lib.countB_mul_le LF1 gj s.size s (Nat.le_refl _)
 have e1:LF1.size=1:=rfl
 have e2:SP1.size=1:=rfl;rw[e1]at hc;refine(Any.strings_ReplaceAll Tryz.lays155 extra155 s LF1 SP1 m w kv hm gj (by rw[e2];omega)).mono ?_;rintro e w' ⟨rfl,hb⟩;obtain⟨s1,s2,s3⟩:=Vc0 hw hb;refine⟨_,G,rfl,s1,s2,⟨rfl,rfl⟩,λp hp=>?_,λi _=>s3 _,λ_ _=>rfl,λκ=>rfl⟩;exact(hbx p hp).persist s1.toExt (s3 _) (λ_ _=>rfl)
def hsxB(s p:ByteArray):Bool:=Lib.hasSuffix s.data.toList p.data.toList
theorem hsxB_to(s p:ByteArray)(hs:s.size<=1073741824):Va2 Tryz.prog 232 [jS s,jS p] [] [] (jB (hsxB s p)) [] []:=by
 refine Vcm ⟨Tryz.f232,Tryz.func232,by kernel_rfl,by kernel_rfl⟩ (λG w us h=>Vqe h) (λG w=>⟨rfl,rfl⟩) (λw=>?_);refine(Any.strings_HasSuffix Tryz.lays100 s p w kv).mono λe w' ⟨he,hw⟩=>⟨he,by rw[hw];exact Below.refl _ _⟩
def codK(t:ByteArray):Bool:=cond (cond (hpxB t SP1) (hsxB t SP1) false) (!eqs (trmB t SP1) e0) false
def codC(s:ByteArray):ByteArray:=cond (codK (rplM s)) (ByteArray.extract (rplM s) (Int.toNat 1) (Int.toNat (((ByteArray.size (rplM s):Nat):Int)-1))) (rplM s)
theorem codC_sz(s:ByteArray):(codC s).size<=s.size:=by
 have h:=rplM_sz s;unfold codC;exact Va5 (λr:ByteArray=>r.size<=s.size) (λ_=>by rw[Vag];omega) (λ_=>h)
theorem trm_two{t:ByteArray}(h:eqs (trmB t SP1) e0=false)(hp:hpxB t SP1=true)(hs:hsxB t SP1=true):2<=t.size:=by
 have e:t.size=t.data.toList.length:=by simp
 have ht:t=⟨t.data.toList.toArray⟩:=by simp
 rcases hl:t.data.toList with _|⟨b,_|⟨b2,l⟩⟩
 ·unfold hpxB Lib.hasPrefix at hp;rw[hl]at hp;exact absurd hp gj
 ·unfold hpxB Lib.hasPrefix at hp;rw[hl]at hp
  have hb:b=32:=by
   have:([32]:List UInt8).isPrefixOf [b]=true:=hp;simp[List.isPrefixOf]at this;exact this.symm
  subst hb;rw[hl]at ht;rw[ht]at h
  have h9:eqs (trmB ⟨([32]:List UInt8).toArray⟩ SP1) e0=true:=by kernel_rfl
  rw[h9]at h;cases h
 ·rw[e,hl];simp
theorem codC_to(s:ByteArray)(m:Int)(hs:s.size<=1073741824):Va2 Tryz.prog 186 [jS s] [glM m] [] (jS (codC s)) [glM m] []:=by
 have k1:=rplM_to s m hs
 have hz:=rplM_sz s;unfold codC;generalize rplM s=t at k1 hz ⊢
 have k2:=Vcb t SP1
 have k3:=hsxB_to t SP1 kv
 have k4:=Vhu t SP1 kv gj (A7.lit gj);unfold codK;refine bGs Tryz.func186 ?_;cases c1:hpxB t SP1 with
 |false=>
  simp only[cond_false];refine gO (tn 2 (kg k1 trivial (tn 2 (kc k2 (tn 1 (kb c1 (kb c1 (kb c1 (tn 1 (kb (b:=false) (d:=false) rfl (kb (b:=false) (d:=false) rfl (kb (b:=false) (d:=false) rfl (kb (b:=false) (d:=false) rfl (kb (b:=false) (d:=false) rfl (tn 2 z))))))))))))))) ?_;exact eNs
 | true=>
  cases c2:hsxB t SP1 with
  |false=>
   simp only[cond_false,cond_true];refine gO (tn 2 (kg k1 trivial (tn 2 (kc k2 (tn 1 (kb c1 (tn 1 (kb c1 (kc k3 (kb c1 (tn 1 (kb c2 (kb c2 (kb c2 (kb c2 (kb (b:=false) (d:=false) rfl (tn 2 z))))))))))))))))) ?_;exact eNs
  | true=>
   cases c3:eqs (trmB t SP1) e0 with
   |true=>
    simp only[cond_true,Bool.not_true,cond_false];refine gO (tn 2 (kg k1 trivial (tn 2 (kc k2 (tn 1 (kb c1 (tn 1 (kb c1 (kc k3 (kb c1 (tn 1 (kb c2 (tn 1 (kb c2 (kc k4 (kb c2 (tn 1 (kb c2 (kb (b:= !eqs (trmB t SP1) e0) (d:=false) (by rw[c3];rfl) (tn 2 z)))))))))))))))))))) ?_;exact eNs
   |false=>
    simp only[cond_true,Bool.not_false]
    have h2:=trm_two c3 c1 c2
    have w1:=wrE (((ByteArray.size t:Nat):Int)-1) (((ByteArray.size t:Nat):Int)-1) kv
    have hsl:0<=(1:Int)/\(1:Int)<=((ByteArray.size t:Nat):Int)-1/\((ByteArray.size t:Nat):Int)-1<=((ByteArray.size t:Nat):Int):=⟨by decide,by omega,by omega⟩
    refine gO (tn 2 (kg k1 trivial (tn 2 (kc k2 (tn 1 (kb c1 (tn 1 (kb c1 (kc k3 (kb c1 (tn 1 (kb c2 (tn 1 (kb c2 (kc k4 (kb c2 (tn 1 (kb c2 (kb (b:= !eqs (trmB t SP1) e0) (d:=true) (by rw[c3];rfl) (tn 3 (kn w1 (kp hsl (tn 1 z))))))))))))))))))))))) ?_;exact eNs
theorem extra105:Builder.Extra Tryz.prog Tryz.lays105_ren where
 sizeBuilder:=by kernel_rfl
 liesBuilder:=by kernel_rfl
 t5:=Tryz.underlying5
 a5:=Tryz.isAgg5
 z5:=Tryz.sizeOf5
 v5:=Tryz.zeroValue5
 infoByte:=by kernel_rfl
 cellsByte:=by kernel_rfl
 sizeByte:=by kernel_rfl
 neB5:=by decide
def repB(s:ByteArray)(n:Nat):ByteArray:=⟨(Lib.repeatL s.data.toList n).toArray⟩
theorem repB_sz(s:ByteArray)(n:Nat):(repB s n).size=n*s.size:=by
 show(Lib.repeatL s.data.toList n).toArray.size=_;rw[Zu,Lib.repeatL_length];simp
theorem argsSI{G:Gh}{w:World}{s:ByteArray}{n:Int}{us:List Value}(h:RepSs G w [jS s,jI n] us):us.toArray=#[.string s,.int .i64 n]:=by
 obtain⟨u,l,rfl,h1,u2,l2,rfl,h3,h4⟩:=h
 have h5:l2=[]:=h4;subst h5;rw[h1.1,h3.1]
theorem repB_to(s:ByteArray)(n:Nat)(hn:n<=1073741824)(hs:s.size<=1024):Va2 Tryz.prog 203 [jS s,jI ((n:Nat):Int)] [] [] (jS (repB s n)) [] []:=by
 refine Vcm ⟨Tryz.f203,Tryz.func203,by kernel_rfl,by kernel_rfl⟩ (λG w us h=>argsSI h) (λG w=>⟨rfl,rfl⟩) (λw=>?_);refine(Any.strings_Repeat Tryz.lays105 extra105 s n w kv ?_).mono λe w' ⟨he,hw⟩=>⟨he,hw⟩
 calc s.size*n<=1024*1073741824:=Nat.mul_le_mul hs hn
  _<=140737488355328:=by decide
end Go.Proofs.YthbpjmogdonlkaaGreatDoor
namespace Go.Proofs.YthbpjmogdonlkaaGreatDoor
open Go Go.Eng
theorem CallTo_args{P:Program}{f:FuncId}{args args':List SV}{bx:List (Nat×ABox)}{gn:List (Key×Nat)}{res:SV}{bx':List (Nat×ABox)}{gn':List (Key×Nat)}(h:Va2 P f args bx gn res bx' gn')(hm:∀ G w vs,RepSs G w args' vs->RepSs G w args vs):Va2 P f args' bx gn res bx' gn':=
 ⟨h.1,λG w vs hw hr hb hg=>h.2 G w vs hw (hm G w vs hr) hb hg⟩
def kOut:Key:=(1002,43)
def btB(g:Nat)(out:List DInline):Nat×ABox:=(1001,.cells 24 [.own kOut g 10 (out.map Va3)])
def btR(ps:List DPiece)(els:List DEm)(O:Ops)(prs:List AV):List (Nat×ABox):=(1003,.cells 183 [.ptr 1000 0])::stB ps els O prs
def btX(g:Nat)(out:List DInline)(ps:List DPiece)(els:List DEm)(O:Ops)(prs:List AV):List (Nat×ABox):=btB g out::btR ps els O prs
section
variable (ps:List DPiece) (els:List DEm) (O:Ops) (prs:List AV)
def bcS(g:Nat)(out:List DInline)(e:DEm):St:=sx 29 [(2,.ptr 1001 0),(3,.ptr 3 0)] ((3,.cells 230 (sEm e))::btX g out ps els O prs) [(kOut,g)]
noncomputable def B4:Array Oper:=(Vp0 4 (Vbc Tryz.f202)).getD #[]
noncomputable def q4(i:Nat):Oper:=B4.getD i (B4.getD 0 default)
def inl0:AV:=.agg [vI 0,vS ⟨#[]⟩,vS ⟨#[]⟩,vS ⟨#[]⟩,vS ⟨#[]⟩,.sl [],.sl [],.sl [],.sl [],.sl []]
def vb4(g:Nat)(out:List DInline)(e:DEm)(i:Nat):SV:=match i with
 |0=>.own kOut g 10 (out.map Va3)
 |1=>.ptr 3 0
 |2=>.av (Vap e.fin)
 |3=>.av (.val (.int .i64 (out.map Va3).length))
 |_=>.av (.sl [inl0])
theorem u42:Vbb Tryz.prog 24=some 42:=by kernel_rfl
theorem i42:Vak Tryz.prog 42=some (10,192,some (.agg #[.int .i64 0,.string ⟨#[]⟩,.string ⟨#[]⟩,.string ⟨#[]⟩,.string ⟨#[]⟩,.slice none 0 0,.slice none 0 0,.slice none 0 0,.slice none 0 0,.slice none 0 0])):=by kernel_rfl
theorem uniI(x:DInline):Uni 10 [Vap x]:=by
 intro y hy;simp only[Za,Zc,or_false]at hy;subst hy;exact⟨rfl,rfl⟩
theorem uni0:Uni 10 [inl0]:=by
 intro y hy;simp only[Za,Zc,or_false]at hy;subst hy;exact⟨rfl,rfl⟩
theorem bc4(g:Nat)(out:List DInline)(e:DEm)(hn:out.length<=1073741824):W Tryz.prog (.region 4 B4 true) (λx S1=>x=.normal/\Weak S1 (sx 29 [] (btX (g+1) (out++[e.fin]) ps els O prs) [(kOut,g+1)])) (bcS ps els O prs g out e):=by
 have hl4:(bcS ps els O prs g out e).fr.length=29:=by kernel_rfl
 refine W_head (Sc:=(((((bcS ps els O prs g out e).put (some 22) (vb4 g out e 0)).put (some 23) (vb4 g out e 1)).put (some 24) (vb4 g out e 2)).put (some 25) (vb4 g out e 3)).put (some 26) (vb4 g out e 4)) kx 5 (vb4 g out e) (λi=>22+i) kx ?_ (λi j _ _ h=>by omega) (λi hi=>by rw[hl4];omega) ?_ rfl rfl ?_ ?_ ?_
 ·intro i hi
  match i,hi with
  |0,_=>exact⟨q4 0,by kernel_rfl,by kernel_rfl,by kernel_rfl⟩
  |1,_=>exact⟨q4 1,by kernel_rfl,by kernel_rfl,by kernel_rfl⟩
  |2,_=>exact⟨q4 2,by kernel_rfl,by kernel_rfl,by kernel_rfl⟩
  |3,_=>exact⟨q4 3,by kernel_rfl,by kernel_rfl,by kernel_rfl⟩
  |4,_=>exact⟨q4 4,by kernel_rfl,by kernel_rfl,by kernel_rfl⟩
  |i+5,h=>exact absurd h kv
 ·intro i hi o ho S' hb hg hlen hdep hoth
  have hget:∀(t:Nat)(s:SV),(∀j,j<5->t≠22+j)->(bcS ps els O prs g out e).fr[t]? =some s->S'.ev (.tmp t)=s:=by
   intro t s h1 h2
   have:=hoth t h1;simp only[St.ev,List.getD_eq_getElem?_getD,this,h2,Option.getD_some]
  have e2:S'.ev (.tmp 2)=.ptr 1001 0:=hget 2 _ (λj _=>by omega) kx
  have e3:S'.ev (.tmp 3)=.ptr 3 0:=hget 3 _ (λj _=>by omega) kx
  have b1:S'.bx.lookup 1001=some (.cells 24 [.own kOut g 10 (out.map Va3)]):=by rw[hb];kernel_rfl
  have b3:S'.bx.lookup 3=some (.cells 230 (sEm e)):=by rw[hb];kernel_rfl
  match i,hi with
  |0,_=>
   obtain rfl:q4 0=o:=Z3 ((show B4[0]? =some (q4 0) by kernel_rfl).symm.trans ho);exact⟨True,trivial,st_load (t:=24) (x:=.tmp 2) kx e2 kx b1 rfl⟩
  |1,_=>
   obtain rfl:q4 1=o:=Z3 ((show B4[1]? =some (q4 1) by kernel_rfl).symm.trans ho);refine⟨True,trivial,?_⟩;unfold Vb6;rw[show(q4 1).op=.fieldAddr 230 (.tmp 3) 0 by kernel_rfl];simp only[e3];unfold Viy;rw[show Vjs Tryz.prog 230 0=some (0,42) by kernel_rfl];rfl
  | 2,_=>
   obtain rfl:q4 2=o:=Z3 ((show B4[2]? =some (q4 2) by kernel_rfl).symm.trans ho)
   have e23:S'.ev (.tmp 23)=.ptr 3 0:=by
    have this:S'.fr[23]? =some (.ptr 3 0):=hdep ⟨1,.data⟩ (by show _∈(q4 2).after;rw[show(q4 2).after=#[⟨1,.data⟩] by kernel_rfl];simp) rfl gj;simp only[St.ev,List.getD_eq_getElem?_getD,this,Option.getD_some]
   exact⟨True,trivial,st_load_agg (t:=42) (x:=.tmp 23) kx e23 kx i42 b3 kx kx kx⟩
  | 3,_=>
   obtain rfl:q4 3=o:=Z3 ((show B4[3]? =some (q4 3) by kernel_rfl).symm.trans ho)
   have e22:S'.ev (.tmp 22)=.own kOut g 10 (out.map Va3):=by
    have this:S'.fr[22]? =some (.own kOut g 10 (out.map Va3)):=hdep ⟨0,.data⟩ (by show _∈(q4 3).after;rw[show(q4 3).after=#[⟨0,.data⟩] by kernel_rfl];simp) rfl gj;simp only[St.ev,List.getD_eq_getElem?_getD,this,Option.getD_some]
   exact⟨True,trivial,st_len (t:=24) (x:=.tmp 22) kx e22 kx⟩
  |4,_=>
   obtain rfl:q4 4=o:=Z3 ((show B4[4]? =some (q4 4) by kernel_rfl).symm.trans ho);exact⟨Uni 10 [inl0],uni0,st_build (t:=24) (c:=.agg #[.int .i64 0,.string ⟨#[]⟩,.string ⟨#[]⟩,.string ⟨#[]⟩,.string ⟨#[]⟩,.slice none 0 0,.slice none 0 0,.slice none 0 0,.slice none 0 0,.slice none 0 0]) kx u42 i42 kx gj gj⟩
  |i+5,h=>exact absurd h kv
 ·intro j hj
  match j,hj with
  |0,_=>rfl
  |1,_=>rfl
  |2,_=>rfl
  |3,_=>rfl
  |4,_=>rfl
  |j+5,h=>exact absurd h kv
 ·intro t ht;simp only[St.put,List.getElem?_set];rw[if_neg (λe=>ht 4 kv e.symm),if_neg (λe=>ht 3 kv e.symm),if_neg (λe=>ht 2 kv e.symm),if_neg (λe=>ht 1 kv e.symm),if_neg (λe=>ht 0 kv e.symm)]
 ·refine WA_push (n:=5) (o4:=q4 5) (o5:=q4 6) (o6:=q4 7) (o7:=q4 8) (t:=24) (e:=42) (T:=42) (T7:=24) (ty:=24) (sz:=10) (k:=kOut) (g:=g) (d4:=27) (d5:=28) (p1:=2) (bid:=1001) (s0:=.own kOut g 10 (out.map Va3)) (bt7:=24) (z7:=some (.slice none 0 0)) (l:=out.map Va3) (x0:=inl0) (x:=Vap e.fin) (A:=.tmp 22) (B:=.tmp 26) (C:=.tmp 25) (X:=.tmp 24)
   kx kx kx kx kx kx kx kx kx kx kx kx kx kx kx kx kx
   kx kx kx kx kx kx (by intro h;cases h) (by intro h;cases h) (by intro h;cases h) gj gj gj (of_decide_eq_true kx) (of_decide_eq_true kx)
   u42 kx i42 i42 kx kx gj rfl kx uni0 (uniI _) (by rw[Zs];omega) ?_
  refine⟨rfl,?_⟩;rw[show out.map Va3++[Vap e.fin]=(out++[e.fin]).map Va3 by simp[Vc3];rfl];exact WK kx
theorem Vnl{bx':List (Nat×ABox)}{l:List (Nat×ABox)}(h:bx'.map (λp=>l.lookup p.1)=bx'.map (λp=>some p.2)):∀ p∈bx',l.lookup p.1=some p.2:=λp hp=>List.map_inj_left.1 h p hp
theorem gen_all{gn':List (Key×Nat)}{S:St}(h:gn'.map (λp=>S.gen p.1)=gn'.map (·.2)):∀ p∈gn',S.gen p.1=p.2:=λp hp=>List.map_inj_left.1 h p hp
def txI(t:ByteArray):DInline:=DInline.mk 1 t ⟨#[]⟩ ⟨#[]⟩ ⟨⟨#[]⟩,[],[]⟩ [] [] []
def runC(e:DEm):ByteArray:=(el ps e.fpiece.toNat).fChar
def runT(e:DEm):DInline:=cond e.frun (txI (repB (runC ps e) e.fleft.toNat)) e.fin
theorem btc_to(g:Nat)(out:List DInline)(e:DEm)(hn:out.length<=1073741824)(hr:e.frun=true->(0<=e.fpiece/\e.fpiece<ps.length)/\(runC ps e).size<=1024/\0<=e.fleft/\e.fleft<=1073741824):
  Va2 Tryz.prog 202 [.av (cEm e),.ptr 1003 0,.ptr 1001 0] (btX g out ps els O prs) [(kOut,g)] Vas (btX (g+1) (out++[runT ps e]) ps els O prs) [(kOut,g+1)]:=by
 have hbx:∀(g:Nat)(out:List DInline),∀p∈btX g out ps els O prs,∀s∈p.2.svs,OkSV ((btX g out ps els O prs).map (·.1)) [(kOut,g)] s:=by
  intro g out p hp s hs;rcases Za.1 hp with rfl|hp
  ·simp only[btB,ABox.svs,Za,Zc,or_false]at hs;subst hs;simp[OkSV,List.lookup]
  ·exact Vg8 (show okB ((btX g out ps els O prs).map (·.1)) [(kOut,g)] (btR ps els O prs)=true by kernel_rfl) p hp s hs
 refine BEGb (λ_:Unit=>Vas) () Tryz.func202 kx (λp hp=>of_decide_eq_true (Zn.1 (show(btX g out ps els O prs).all (λp=>decide (1000<=p.1))=true by kernel_rfl) p hp)) (by simp[kOut]) (λs hs=>Vcs (Zn.1 (show([.av (cEm e),.ptr 1003 0,.ptr 1001 0]:List SV).all (okSb ((btX g out ps els O prs).map (·.1)) [(kOut,g)])=true by kernel_rfl) s hs)) (hbx g out) (by simp[OkSV,SV.keys,Vas]) (hbx (g+1) (out++[runT ps e])) rfl rfl ?_ (λp hp=>by
  have:=Zn.1 (show(btX (g+1) (out++[runT ps e]) ps els O prs).all (λp=>decide (p.1<2000)||(Vb8 (btX (g+1) (out++[runT ps e]) ps els O prs)).contains p.1)=true by kernel_rfl) p hp
  simpa using this)
 cases hrun:e.frun with
 |false=>
  have hT:runT ps e=e.fin:=by unfold runT;rw[hrun];rfl
  rw[hT];refine gO (tn 3 (kb hrun z)) ?_;refine NXW (sx 29 [] (btX (g+1) (out++[e.fin]) ps els O prs) [(kOut,g+1)]) z kx ?_ kx ?_
  ·refine Vai (S':=bcS ps els O prs g out e) (WK kx) ?_;exact Val (c':=.region 4 B4 true) kx (bc4 ps els O prs g out e hn)
  exact ENb kx (Vnl kx) (gen_all kx)
 | true=>
  obtain⟨h1,h2,h3,h4⟩:=hr hrun
  have hep:=Vii ps e.fpiece h1.1 h1.2
  have hrep:=repB_to (runC ps e) e.fleft.toNat kv h2;rw[Int.toNat_of_nonneg h3]at hrep;obtain⟨e',he'⟩:∃ e':DEm,e'={e with fin:=txI (repB (runC ps e) e.fleft.toNat)}:=⟨_,rfl⟩
  have hT:runT ps e=e'.fin:=by unfold runT;rw[hrun,he'];rfl
  rw[hT];refine gO (tn 3 (kb hrun z)) ?_;refine DR3 (tn 6 (ke hep (tn 6 (kc hrep (tn 3 z))))) kx kx kx ?_;refine NXW (sx 29 [] (btX (g+1) (out++[e'.fin]) ps els O prs) [(kOut,g+1)]) z kx ?_ kx ?_
  ·refine Vai (S':=bcS ps els O prs g out e') (WK ?_) ?_
   ·rw[he'];kernel_rfl
   exact Val (c':=.region 4 B4 true) kx (bc4 ps els O prs g out e' hn)
  exact ENb kx (Vnl kx) (gen_all kx)
end
end Go.Proofs.YthbpjmogdonlkaaGreatDoor
namespace Go.Proofs.YthbpjmogdonlkaaGreatDoor
open Go Go.Eng
theorem dT{p:Prop}[Decidable p](h:p):decide p=true:=decide_eq_true h
theorem dF{p:Prop}[Decidable p](h:¬ p):decide p=false:=decide_eq_false h
def kO:Key:=(7,43)
def sO(κ:Key):Key:=if κ=(1001,0)then(7,0)else if κ=(7,0)then(1001,0)else if κ=kOut then kO else if κ=kO then kOut else κ
theorem sO_inv:Inv sO:=by
 refine⟨λκ=>?_,λκ=>?_⟩
 ·unfold sO
  by_cases h1:κ=(1001,0)
  ·subst h1;decide
  by_cases h2:κ=(7,0)
  ·subst h2;decide
  by_cases h3:κ=kOut
  ·subst h3;decide
  by_cases h4:κ=kO
  ·subst h4;decide
  simp only[h1,h2,h3,h4,if_false]
 ·unfold sO
  repeat' split
  all_goals first|rfl|(rename_i h;rw[h];rfl)|(subst_vars;rfl)
section
variable (ps:List DPiece) (els:List DEm) (O:Ops) (prs:List AV)
def bwB(g:Nat)(out:List DInline):List (Nat×ABox):=(7,.cells 24 [.own kO g 10 (out.map Va3)])::(3,.cells 183 [.ptr 1000 0])::stB ps els O prs
def RunOk(e:DEm):Prop:=e.frun=true->(0<=e.fpiece/\e.fpiece<ps.length)/\(runC ps e).size<=1024/\0<=e.fleft/\e.fleft<=1073741824
theorem btcL_to(g:Nat)(out:List DInline)(e:DEm)(hn:out.length<=1073741824)(hr:RunOk ps e):Va2 Tryz.prog 202 [.av (cEm e),.ptr 3 0,.ptr 7 0] (bwB ps els O prs g out) [(kO,g)] Vas (bwB ps els O prs (g+1) (out++[runT ps e])) [(kO,g+1)]:=
 Vcq kx (Vaa (Vaf (3,0) (1003,0) rfl) (Vaa sO_inv (btc_to ps els O prs g out e hn hr)))
def bwS(c:Int)(g:Nat)(out:List DInline)(k:Int):St:=sx 40 [(2,jI c),(3,.ptr 3 0),(7,.ptr 7 0),(8,.fn 202 [] [.ptr 3 0,.ptr 7 0]),(9,jI k)] (bwB ps els O prs g out) [(kO,g)]
def btM(c:Int):Nat->Int->List DInline
 |0,_=>[]
 |n+1,k=>cond (k !=c) (runT ps (el els k.toNat)::btM c n (el els k.toNat).fnext) []
def BtOk(c:Int):Nat->Int->Prop
 |0,k=>k=c
 |n+1,k=>k≠c->Ix els k/\RunOk ps (el els k.toNat)/\BtOk c n (el els k.toNat).fnext
theorem bw_to(o c:Int)(n:Nat)(ho:Ix els o)(hB:BtOk ps els c n (el els o.toNat).fnext)(hn:n<=1073741824):Va2 Tryz.prog 148 [.ptr 1000 0,jI o,jI c] (stB ps els O prs) [] (jL ((btM ps els c n (el els o.toNat).fnext).map Va3)) (stB ps els O prs) []:=by
 have he0:=Vcc els o ho.1 ho.2;refine bGs Tryz.func148 ?_;refine gO (kq 3 (tn 5 z)) ?_;refine RT [(7,0,.own kO 0 10 (([]:List DInline).map Va3))] (ac (show([]:List AV)=[]/\0<43/\(0:Nat)=0 from⟨rfl,by decide,rfl⟩) an) kx ?_;refine gO (tn 5 (kp ho (tn 1 (ke he0 (tn 1 z))))) ?_;refine LP (n:=n+1) (λN M S=>∃(m v:Nat)(out:List DInline)(k:Int),m+v=n/\out.length=v/\BtOk ps els c m k/\out++btM ps els c m k=btM ps els c n (el els o.toNat).fnext/\m<N/\M=()/\S=bwS ps els O prs c v out k) kx ⟨n,0,[],_,by omega,rfl,hB,rfl,by omega,rfl,rfl⟩ (WK kx) ?_;rintro n0 M S ⟨m,v,out,k,hmv,hov,hk,hm,hF0,rfl,rfl⟩;obtain⟨n0,rfl⟩:∃ k,n0=k+1:=⟨n0-1,by omega⟩
 by_cases h1:k=c
 ·have hd:(k !=c)=false:=by rw[h1];exact bne_self_eq_false' ..
  have hbt:btM ps els c m k=[]:=by
   cases m with
   |zero=>rfl
   |succ m=>unfold btM;rw[hd];rfl
  rw[hbt,List.append_nil]at hm;rw[<-hm];refine gO (tn 3 (kb hd z)) ?_;refine OUT (tn 2 z) kx ?_;exact eNs
 ·have hd:(k !=c)=true:=by rw[bne_iff_ne];exact h1
  cases m with
  |zero=>exact absurd hk h1
  | succ m=>
   obtain⟨hi,hr,hb⟩:=hk h1
   have hev:=Vcc els k hi.1 hi.2
   have hc:=btcL_to ps els O prs v out (el els k.toNat) kv hr
   have hbt:btM ps els c (m+1) k=runT ps (el els k.toNat)::btM ps els c m (el els k.toNat).fnext:=by
    show cond _ _ _=_;rw[hd];rfl
   rw[hbt]at hm;refine gO (tn 3 (kb hd (tn 6 (kp hi (ke hev (kg hc (show v=v/\True from⟨rfl,trivial⟩) (tn 5 (kp hi (tn 1 (ke hev (tn 1 z))))))))))) ?_;exact AG (m:=n0) ⟨m,v+1,out++[runT ps (el els k.toNat)],(el els k.toNat).fnext,by omega,by simp;omega,hb,by rw[Zo];exact hm,by omega,rfl,rfl⟩ (WK kx) kx (Zb _)
end
end Go.Proofs.YthbpjmogdonlkaaGreatDoor
namespace Go.Eng
variable {P:Program}
def Vnp(i:Nat):Code->Option (Code×Code)
 | .seq x y=>match x with
  | .region j _ _=>match j==i with
   |true=>some (x,y)
   |false=>Vnp i y
  |_=>match Vnp i x with
   |some r=>some r
   |none=>Vnp i y
 | .block _ c=>Vnp i c
 | .loop c=>Vnp i c
 | .scope c=>Vnp i c
 | .cond _ x y=>match Vnp i x with
  |some r=>some r
  |none=>Vnp i y
 |_=>none
def headR:Code->Option Nat
 | .seq x _=>headR x
 | .block _ c=>headR c
 | .scope c=>headR c
 | .region j _ _=>some j
 |_=>none
def Vph(i:Nat):Code->Option Code
 | .seq x y=>match Vph i x with
  |some r=>some r
  |none=>Vph i y
 | .block _ c=>Vph i c
 | .scope c=>Vph i c
 | .loop c=>match headR c==some i with
  |true=>some (.loop c)
  |false=>Vph i c
 | .cond _ x y=>match Vph i x with
  |some r=>some r
  |none=>Vph i y
 |_=>none
def startL(i:Nat)(c:Code)(ks:List Fm)(S:St):Cf:=match Vph i c with
 |some x=>some ([],[],.at x ks S)
 |none=>none
def startR(i:Nat)(c:Code)(S:St):Cf:=match Vnp i c with
 |some (x,y)=>some ([],[],.at x [.sq y] S)
 |none=>none
def cutX(X:Cf)(n:Nat)(S:St):Cf:=match X with
 |some (_,_,.at c ks _)=>some ([],[],.at c (ks.take n) S)
 |_=>none
def contE(P:Program)(X:Cf)(n:Nat)(e:Exit)(S:St)(ors:List Oq):Cf:=match X with
 |some (_,_,.at _ ks _)=>goK P (ks.drop n) (some ([],ors,.fin e S))
 |_=>none
theorem W_weakE{c:Code}{Q:Exit->St->Prop}{S:St}(h:W P c (λe S1=>∃ S2,Weak S1 S2/\Q e S2) S):W P c Q S:=
 λG w a hr=>Code.wp_mono (λe a' w' ⟨S1,G',⟨S2,hw,hq⟩,h2,h3,h4⟩=>⟨S2,G',hq,h2,hw G' w' a' h3,h4⟩) (h G w a hr)
theorem Vdk{Q:Exit->St->Prop}:∀(ks:List Fm)(e:Exit)(S:St),Kont P (QW Q ()) ks e S->∃ S2,Weak S S2/\Kont P Q ks e S2
 |[],e,S,h=>h
 | .sq d::ks,e,S,h=>by
  cases e with
  |normal=>exact⟨S,λ_ _ _ h=>h,W_weakE (Vfv h (λe S1 h1=>Vdk ks e S1 h1))⟩
  |_=>exact Vdk ks _ S h
 | .bk id::ks,e,S,h=>by
  unfold Kont Vgd at h ⊢;cases e with
  |exit i=>
   simp only at h ⊢
   split at h
   ·obtain⟨S2,h1,h2⟩:=Vdk ks _ S h;exact⟨S2,h1,by rw[if_pos (by assumption)];exact h2⟩
   ·obtain⟨S2,h1,h2⟩:=Vdk ks _ S h;exact⟨S2,h1,by rw[if_neg (by assumption)];exact h2⟩
  |_=>exact Vdk ks _ S h
 | .sc::ks,e,S,h=>by
  cases e with
  |goto l=>exact absurd h id
  |_=>exact Vdk ks _ S h
theorem Vdl{Q Q':Exit->St->Prop}(hq:∀ e S,Q e S->Q' e S):∀(ks:List Fm)(e:Exit)(S:St),Kont P Q ks e S->Kont P Q' ks e S
 |[],e,S,h=>hq e S h
 | .sq d::ks,e,S,h=>by
  cases e with
  |normal=>exact Vfv h (λe S1 h1=>Vdl hq ks e S1 h1)
  |_=>exact Vdl hq ks _ S h
 | .bk id::ks,e,S,h=>by
  unfold Kont Vgd at h ⊢;cases e with
  |exit i=>
   simp only at h ⊢
   split at h
   ·rw[if_pos (by assumption)];exact Vdl hq ks _ S h
   ·rw[if_neg (by assumption)];exact Vdl hq ks _ S h
  |_=>exact Vdl hq ks _ S h
 | .sc::ks,e,S,h=>by
  cases e with
  |goto l=>exact absurd h id
  |_=>exact Vdl hq ks _ S h
theorem NXE{α ι:Type}{K:α->Exit->St->Prop}{M:α}{X T:Cf}(n:Nat)(S':St)(p:ι->Prop)(E:ι->Exit)(R:ι->St)(hX:isAt X=true)(hw:Weak (stOf X) S')(hc:cutX X n S'=T)
  (hN:Nx P (QW (λe S1=>∃ i,p i/\e=E i/\S1=R i)) () T)
  (hn:∀ i,p i->∃ oc:OC,csOf (contE P X n (E i) (R i) oc.o)=some oc.c/\Nx P K M (contE P X n (E i) (R i) oc.o)):Nx P K M X:=by
 unfold isAt at hX
 split at hX
 case h_2=>cases hX
 rename_i c0 o0 c ks S;subst hc;obtain⟨hN⟩:=hN;refine⟨?_⟩
 have hN:W P c (Kont P (QW (λe S1=>∃ i,p i/\e=E i/\S1=R i) ()) (ks.take n)) S':=hN
 show W P c (Kont P (K M) ks) S;refine Vai hw ?_
 have hk:Kont P (K M) ks=Kont P (Kont P (K M) (ks.drop n)) (ks.take n):=by rw[<-Vbf,Zx]
 rw[hk];refine Vfv (W_weakE (Vfv hN (λe S1 h=>Vdk _ e S1 h))) (λe S1 h=>Vdl (λe S1 h1=>?_) _ e S1 h);obtain⟨i,hp,rfl,rfl⟩:=h1;obtain⟨oc,h1,⟨h2⟩⟩:=hn i hp;simp only[contE]at h1 h2;cases hk:goK P (ks.drop n) (some ([],oc.o,.fin (E i) (R i)))with
 |none=>rw[hk]at h1;simp[csOf]at h1
 |some r=>
  obtain⟨c2,o2,out2⟩:=r;rw[hk]at h1 h2;unfold csOf at h1
  split at h1
  ·rename_i e;simp only[Zl,Prod.mk.injEq]at e h1;obtain⟨rfl,rfl,rfl⟩:=e;subst h1;exact(Vaq (K M) _ _ _ _ _ _ _ hk (oc.h trivial) h2).2
  ·simp at h1
end Go.Eng
namespace Go.Proofs.YthbpjmogdonlkaaGreatDoor
open Go Go.Eng
def opS(bef near:Int):List Int->Int
 |[]=>near
 |x::r=>cond (decide (x<=near)) near (cond (bef !=x) x (opS bef near r))
def opA(cl:DPiece)(v:Nat):Bool:=cond (cond ((((v:Nat):Int).tmod 2)==1) true cl.fOpen) (!eqs cl.fChar ⟨#[126]⟩) false
def opL(v:Nat):Int:=IntKind.i64.wrap (((v:Nat):Int).tdiv 2)
def opC(cl:DPiece)(v:Nat):Bool:=cond (((opL v+cl.fN).tmod 3)==0) (opL v !=0) false
def opK(O:Ops)(cl:DPiece)(bef:Int)(v:Nat)(near:Int):Int:=cond (cond (opA cl v) (opC cl v) false) near (opS bef near (O (chrN cl.fChar*6+v)).reverse)
def opF(O:Ops)(cl:DPiece)(bef:Int):Nat->Nat->Int->Int
 |0,_,near=>near
 |n+1,v,near=>opF O cl bef n (v+1) (opK O cl bef v near)
def opM(O:Ops)(cl:DPiece)(bef:Int):Int:=opF O cl bef 6 0 0
def clO(ps:List DPiece)(els:List DEm)(c:Int):DPiece:=el ps (el els c.toNat).fpiece.toNat
def opR(r:Int):SV:=.av (.tup [vI r,vB (decide (r>0))])
def opX(ps:List DPiece)(els:List DEm)(O:Ops)(prs:List AV)(c near:Int)(cl:DPiece)(sl:List (Nat×SV)):St:=sx 101 ([(0,.ptr 1000 0),(1,jI c),(6,.ptr 6 0),(7,jI near)]++sl) ((6,.cells 68 (sPiece cl))::stB ps els O prs) []
theorem take_prd(l:List Int)(r:Nat)(h0:0<r)(h:r<=l.length):l.take r=l.take (r-1)++[el l (((r:Nat):Int)-1).toNat]:=by
 obtain⟨k,rfl⟩:∃ k,r=k+1:=⟨r-1,by omega⟩
 rw[show(((k+1:Nat):Int)-1).toNat=k by omega,Nat.add_sub_cancel,List.take_succ_eq_append_getElem kv];simp[el,show k<l.length by omega]
def I18(i:Nat):Prop:=i=0\/i=1\/i=2\/i=3\/i=4\/i=5\/i=6\/i=7\/i=8\/i=9\/i=10\/i=11\/i=12\/i=13\/i=14\/i=15\/i=16\/i=17
def opQ(ps:List DPiece)(els:List DEm)(O:Ops)(prs:List AV)(c:Int)(cl:DPiece)(near:Int)(v:Nat):Exit->St->Prop:=λe S1=>∃ b:Bool,True/\e=cond b (.exit 1) .normal/\S1=opX ps els O prs c near cl [(27,jI ((v:Nat):Int))]
def opY(ps:List DPiece)(els:List DEm)(O:Ops)(prs:List AV)(c near:Int)(cl:DPiece)(i v:Nat)(j:Int):St:=opX ps els O prs c near cl [(11,.vs (2010+i) (O i).length),(12,jI j),(27,jI ((v:Nat):Int))]
theorem op_in(ps:List DPiece)(els:List DEm)(O:Ops)(prs:List AV)(c near:Int)(cl:DPiece)(i v:Nat)(hI:I18 i)(hc:Ix els c)(hn0:(O i).length<=1073741824):
  Nx Tryz.prog (QW (opQ ps els O prs c cl (opS (el els c.toNat).fbefore near (O i).reverse) v)) () (startL 11 (Vbc Tryz.f248) [.bk 2] (opY ps els O prs c near cl i v (((O i).length:Int)-1))):=by
 have hec:=Vcc els c hc.1 hc.2;refine LP (n:=(O i).length+1) (λN M S=>∃ r:Nat,r<=(O i).length/\opS (el els c.toNat).fbefore near ((O i).take r).reverse=opS (el els c.toNat).fbefore near (O i).reverse/\r<N/\M=()/\S=opY ps els O prs c near cl i v (((r:Nat):Int)-1)) kx ⟨_,Nat.le_refl _,by rw[List.take_length],by omega,rfl,rfl⟩ (λ_ _ _ h=>h) ?_;rintro n1 M S ⟨r,hr,hq,hF1,rfl,rfl⟩;obtain⟨n1,rfl⟩:∃ k,n1=k+1:=⟨n1-1,by omega⟩
 by_cases h2:0<r
 ·have hd2:decide ((((r:Nat):Int)-1)>=0)=true:=decide_eq_true kv
  have hix:0<=((r:Nat):Int)-1/\((r:Nat):Int)-1<(((O i).length:Nat):Int):=⟨by omega,by omega⟩
  have hel:=elI_vI (O i) (((r:Nat):Int)-1) hix.1 hix.2
  have ht:=take_prd (O i) r h2 hr;generalize el (O i) (((r:Nat):Int)-1).toNat=x at hel ht
  have hq2:opS (el els c.toNat).fbefore near ((O i).take r).reverse=cond (decide (x<=near)) near (cond ((el els c.toNat).fbefore !=x) x (opS (el els c.toNat).fbefore near ((O i).take (r-1)).reverse)):=by
   rw[ht,List.reverse_append];rfl
  cases hx1:decide (x<=near)with
  |true=>
   rw[hx1,cond_true]at hq2;rw[<-hq,hq2];refine GO (tn 2 (kb hd2 (tn 2 (kp hix (ke hel (tn 2 (kb hx1 z))))))) (by rcases hI with rfl|rfl|rfl|rfl|rfl|rfl|rfl|rfl|rfl|rfl|rfl|rfl|rfl|rfl|rfl|rfl|rfl|rfl <;>kernel_rfl) ?_;refine OUT z (by rcases hI with rfl|rfl|rfl|rfl|rfl|rfl|rfl|rfl|rfl|rfl|rfl|rfl|rfl|rfl|rfl|rfl|rfl|rfl <;>kernel_rfl) ?_;exact LEAF (.exit 1) (by rcases hI with rfl|rfl|rfl|rfl|rfl|rfl|rfl|rfl|rfl|rfl|rfl|rfl|rfl|rfl|rfl|rfl|rfl|rfl <;>kernel_rfl) (WK (by rcases hI with rfl|rfl|rfl|rfl|rfl|rfl|rfl|rfl|rfl|rfl|rfl|rfl|rfl|rfl|rfl|rfl|rfl|rfl <;>kernel_rfl)) ⟨true,trivial,rfl,rfl⟩
  | false=>
   rw[hx1,cond_false]at hq2;refine GO (tn 2 (kb hd2 (tn 2 (kp hix (ke hel (tn 2 (kb hx1 z))))))) (by rcases hI with rfl|rfl|rfl|rfl|rfl|rfl|rfl|rfl|rfl|rfl|rfl|rfl|rfl|rfl|rfl|rfl|rfl|rfl <;>kernel_rfl) ?_;cases hx2:((el els c.toNat).fbefore !=x)with
   |true=>
    rw[hx2,cond_true]at hq2;rw[<-hq,hq2];refine DR3 (tn 5 (kp hc (tn 1 (ke hec (tn 2 (kp hix (ke hel (tn 1 (kb hx2 (tn 2 (kp hix (ke hel (tn 1 z))))))))))))) kx (by rcases hI with rfl|rfl|rfl|rfl|rfl|rfl|rfl|rfl|rfl|rfl|rfl|rfl|rfl|rfl|rfl|rfl|rfl|rfl <;>kernel_rfl) (by rcases hI with rfl|rfl|rfl|rfl|rfl|rfl|rfl|rfl|rfl|rfl|rfl|rfl|rfl|rfl|rfl|rfl|rfl|rfl <;>kernel_rfl) ?_;refine OUT z (by rcases hI with rfl|rfl|rfl|rfl|rfl|rfl|rfl|rfl|rfl|rfl|rfl|rfl|rfl|rfl|rfl|rfl|rfl|rfl <;>kernel_rfl) ?_;exact LEAF (.exit 1) (by rcases hI with rfl|rfl|rfl|rfl|rfl|rfl|rfl|rfl|rfl|rfl|rfl|rfl|rfl|rfl|rfl|rfl|rfl|rfl <;>kernel_rfl) (WK (by rcases hI with rfl|rfl|rfl|rfl|rfl|rfl|rfl|rfl|rfl|rfl|rfl|rfl|rfl|rfl|rfl|rfl|rfl|rfl <;>kernel_rfl)) ⟨true,trivial,rfl,rfl⟩
   |false=>
    rw[hx2,cond_false]at hq2
    have hwr:IntKind.i64.wrap ((((r:Nat):Int)-1)-1)=(((r-1:Nat):Nat):Int)-1:=wrE _ _ kv;refine DR3 (tn 5 (kp hc (tn 1 (ke hec (tn 2 (kp hix (ke hel (tn 1 (kb hx2 (tn 1 (kn hwr (tn 1 z)))))))))))) kx (by rcases hI with rfl|rfl|rfl|rfl|rfl|rfl|rfl|rfl|rfl|rfl|rfl|rfl|rfl|rfl|rfl|rfl|rfl|rfl <;>kernel_rfl) (by rcases hI with rfl|rfl|rfl|rfl|rfl|rfl|rfl|rfl|rfl|rfl|rfl|rfl|rfl|rfl|rfl|rfl|rfl|rfl <;>kernel_rfl) ?_;exact AG (m:=n1) ⟨r-1,by omega,hq2.symm.trans hq,by omega,rfl,rfl⟩ (WK (by rcases hI with rfl|rfl|rfl|rfl|rfl|rfl|rfl|rfl|rfl|rfl|rfl|rfl|rfl|rfl|rfl|rfl|rfl|rfl <;>kernel_rfl)) (by rcases hI with rfl|rfl|rfl|rfl|rfl|rfl|rfl|rfl|rfl|rfl|rfl|rfl|rfl|rfl|rfl|rfl|rfl|rfl <;>kernel_rfl) (Zb _)
 ·have hr0:r=0:=by omega
  subst hr0
  have hq:near=opS (el els c.toNat).fbefore near (O i).reverse:=hq;rw[<-hq];refine gO (tn 2 (kb (b:=decide ((((0:Nat):Int)-1)>=0)) (d:=false) rfl z)) ?_;refine OUT z kx ?_;exact LEAF .normal kx (WK kx) ⟨false,trivial,rfl,rfl⟩
def exN(last:Int)(l:List Int):Nat->Nat
 |0=>0
 |r+1=>cond (decide (el l r>last)) (exN last l r) (r+1)
def exL(last:Int)(l:List Int):List Int:=l.take (exN last l l.length)
theorem exN_s(last:Int)(l:List Int)(r:Nat):exN last l (r+1)=cond (decide (el l r>last)) (exN last l r) (r+1):=rfl
theorem exN_le(last:Int)(l:List Int):∀ r,exN last l r<=r
 |0=>Nat.le_refl _
 |r+1=>by
  unfold exN;cases decide (el l r>last)with
  |true=>exact Nat.le_succ_of_le (exN_le last l r)
  |false=>exact Nat.le_refl _
def updO(O:Ops)(i:Nat)(l:List Int):Ops:=λj=>cond (Nat.beq j i) l (O j)
def exX(ps:List DPiece)(els:List DEm)(O:Ops)(prs:List AV)(last:Int)(sl:List (Nat×SV)):St:=sx 58 ([(0,.ptr 1000 0),(1,jI last)]++sl) (stB ps els O prs) []
def exR(a b d:Nat):List (Nat×SV):=[(4,jI ((a:Nat):Int)),(5,jI ((b:Nat):Int)),(6,jI ((d:Nat):Int)),(8,jI ((a:Nat):Int)),(11,jI ((b:Nat):Int)),(14,jI ((d:Nat):Int))]
theorem ex_in(ps:List DPiece)(els:List DEm)(O:Ops)(prs:List AV)(last:Int)(a b d i:Nat)(hI:I18 i)(hn0:(O i).length<=1073741824):
  Nx Tryz.prog (QW (λe S1=>∃ _:Unit,True/\e=.normal/\S1=exX ps els O prs last ([(7,.vs (2010+i) (exN last (O i) (O i).length))]++exR a b d))) () (startL 10 (Vbc Tryz.f291) [.bk 6] (exX ps els O prs last ([(7,.vs (2010+i) (O i).length)]++exR a b d))):=by
 refine LP (n:=(O i).length+1) (λN M S=>∃ r:Nat,r<=(O i).length/\exN last (O i) r=exN last (O i) (O i).length/\r<N/\M=()/\S=exX ps els O prs last ([(7,.vs (2010+i) r)]++exR a b d)) kx ⟨_,Nat.le_refl _,rfl,by omega,rfl,rfl⟩ (λ_ _ _ h=>h) ?_;rintro n1 M S ⟨r,hr,hq,hF1,rfl,rfl⟩;obtain⟨n1,rfl⟩:∃ k,n1=k+1:=⟨n1-1,by omega⟩
 by_cases h2:0<r
 ·obtain⟨q,rfl⟩:∃ q,r=q+1:=⟨r-1,by omega⟩
  have hix:0<=((q:Nat):Int)/\((q:Nat):Int)<((q+1:Nat):Int):=⟨by omega,by omega⟩
  have hel:=elI_vI (O i) ((q:Nat):Int) kv kv
  have hwr:IntKind.i64.wrap (((q+1:Nat):Int)-1)=((q:Nat):Int):=wrE _ _ kv
  have hd:decide (((q+1:Nat):Int)>0)=true:=decide_eq_true kv
  have hcut:(0:Int)=0/\0<=((q:Nat):Int)/\((q:Nat):Int)<=((q+1:Nat):Int):=⟨rfl,by omega,by omega⟩
  rw[exN_s]at hq;cases hx:decide (el (O i) q>last)with
  |true=>
   rw[hx,cond_true]at hq
   have hx2:cond (decide (((q+1:Nat):Int)>0)) (decide (el (O i) ((q:Nat):Int).toNat>last)) false=true:=by rw[hd];exact hx
   refine GO (tn 4 (kj (decide (((q+1:Nat):Int)>0)) (tn 3 (hn (λ_=>hwr) (hp (λ_=>hix) (he (λ_=>hel) (tn 2 z))))) z (kb hx2 (tn 3 (kn hwr (kp hcut (tn 1 z))))))) (by rcases hI with rfl|rfl|rfl|rfl|rfl|rfl|rfl|rfl|rfl|rfl|rfl|rfl|rfl|rfl|rfl|rfl|rfl|rfl <;>kernel_rfl) ?_;exact AG (m:=n1) ⟨q,by omega,hq,by omega,rfl,rfl⟩ (WK (by rcases hI with rfl|rfl|rfl|rfl|rfl|rfl|rfl|rfl|rfl|rfl|rfl|rfl|rfl|rfl|rfl|rfl|rfl|rfl <;>kernel_rfl)) (by rcases hI with rfl|rfl|rfl|rfl|rfl|rfl|rfl|rfl|rfl|rfl|rfl|rfl|rfl|rfl|rfl|rfl|rfl|rfl <;>kernel_rfl) (Zb _)
  |false=>
   rw[hx,cond_false]at hq;rw[<-hq]
   have hx2:cond (decide (((q+1:Nat):Int)>0)) (decide (el (O i) ((q:Nat):Int).toNat>last)) false=false:=by rw[hd];exact hx
   refine GO (tn 4 (kj (decide (((q+1:Nat):Int)>0)) (tn 3 (hn (λ_=>hwr) (hp (λ_=>hix) (he (λ_=>hel) (tn 2 z))))) z (kb hx2 z))) (by rcases hI with rfl|rfl|rfl|rfl|rfl|rfl|rfl|rfl|rfl|rfl|rfl|rfl|rfl|rfl|rfl|rfl|rfl|rfl <;>kernel_rfl) ?_;refine OUT z (by rcases hI with rfl|rfl|rfl|rfl|rfl|rfl|rfl|rfl|rfl|rfl|rfl|rfl|rfl|rfl|rfl|rfl|rfl|rfl <;>kernel_rfl) ?_;exact LEAF .normal (by rcases hI with rfl|rfl|rfl|rfl|rfl|rfl|rfl|rfl|rfl|rfl|rfl|rfl|rfl|rfl|rfl|rfl|rfl|rfl <;>kernel_rfl) (WK (by rcases hI with rfl|rfl|rfl|rfl|rfl|rfl|rfl|rfl|rfl|rfl|rfl|rfl|rfl|rfl|rfl|rfl|rfl|rfl <;>kernel_rfl)) ⟨(),trivial,rfl,rfl⟩
 ·have hr0:r=0:=by omega
  subst hr0
  have hq:0=exN last (O i) (O i).length:=hq;rw[<-hq]
  have hnf:¬ decide (((0:Nat):Int)>0)=true:=by decide
  refine GO (tn 4 (kj (decide (((0:Nat):Int)>0)) (tn 3 (hn (λ_=>wrE (((0:Nat):Int)-1) (-1) gj) (hp (p:=0<=(-1:Int)/\(-1:Int)<((0:Nat):Int)) (λh=>absurd h.2 hnf) (he (l:=(O i).map vI) (i:= -1) (y:=vI 0) (λh=>absurd h.2 hnf) (tn 2 z))))) z (kb (b:=false) (d:=false) rfl z))) (by rcases hI with rfl|rfl|rfl|rfl|rfl|rfl|rfl|rfl|rfl|rfl|rfl|rfl|rfl|rfl|rfl|rfl|rfl|rfl <;>kernel_rfl) ?_;refine OUT z (by rcases hI with rfl|rfl|rfl|rfl|rfl|rfl|rfl|rfl|rfl|rfl|rfl|rfl|rfl|rfl|rfl|rfl|rfl|rfl <;>kernel_rfl) ?_;exact LEAF .normal (by rcases hI with rfl|rfl|rfl|rfl|rfl|rfl|rfl|rfl|rfl|rfl|rfl|rfl|rfl|rfl|rfl|rfl|rfl|rfl <;>kernel_rfl) (WK (by rcases hI with rfl|rfl|rfl|rfl|rfl|rfl|rfl|rfl|rfl|rfl|rfl|rfl|rfl|rfl|rfl|rfl|rfl|rfl <;>kernel_rfl)) ⟨(),trivial,rfl,rfl⟩
theorem exL_len(last:Int)(l:List Int):(exL last l).length=exN last l l.length:=by
 unfold exL;rw[List.length_take];exact Nat.min_eq_left (exN_le last l _)
theorem exL_map(last:Int)(l:List Int):(l.map vI).take (exL last l).length=(exL last l).map vI:=by
 rw[exL_len,exL,List.map_take]
theorem ex_tail(ps:List DPiece)(els:List DEm)(O:Ops)(prs:List AV)(last:Int)(a b d:Nat)(ha:a<3)(hb:b<3)(hd:d<2)(hO:∀ i,(O i).length<=1073741824):
  Nx Tryz.prog (QW (λe S1=>∃ _:Unit,True/\e=.normal/\S1=exX ps els (updO O (a*6+b*2+d) (exL last (O (a*6+b*2+d)))) prs last (exR a b d))) () (startR 9 (Vbc Tryz.f291) (exX ps els O prs last (exR a b d))):=by
 have hA:a=0\/a=1\/a=2:=by omega
 have hB:b=0\/b=1\/b=2:=by omega
 have hD:d=0\/d=1:=by omega
 have qa:0<=((a:Nat):Int)/\((a:Nat):Int)<((3:Nat):Int):=⟨by omega,by omega⟩
 have qb:0<=((b:Nat):Int)/\((b:Nat):Int)<((3:Nat):Int):=⟨by omega,by omega⟩
 have qd:0<=((d:Nat):Int)/\((d:Nat):Int)<((2:Nat):Int):=⟨by omega,by omega⟩
 have hin:=ex_in ps els O prs last a b d (a*6+b*2+d) (by unfold I18;omega) (hO _);rw[<-exL_len]at hin;refine GO (tn 6 (kp qa (kp qb (kp qd (tn 2 z))))) (by rcases hA with rfl|rfl|rfl <;>rcases hB with rfl|rfl|rfl <;>rcases hD with rfl|rfl <;>kernel_rfl) ?_;refine NXE 1 (exX ps els O prs last ([(7,.vs (2010+(a*6+b*2+d)) (O (a*6+b*2+d)).length)]++exR a b d)) (λ_:Unit=>True) (λ_=>.normal) (λ_=>exX ps els O prs last ([(7,.vs (2010+(a*6+b*2+d)) (exL last (O (a*6+b*2+d))).length)]++exR a b d)) (by rcases hA with rfl|rfl|rfl <;>rcases hB with rfl|rfl|rfl <;>rcases hD with rfl|rfl <;>kernel_rfl) (WK (by rcases hA with rfl|rfl|rfl <;>rcases hB with rfl|rfl|rfl <;>rcases hD with rfl|rfl <;>kernel_rfl)) (by rcases hA with rfl|rfl|rfl <;>rcases hB with rfl|rfl|rfl <;>rcases hD with rfl|rfl <;>kernel_rfl) hin (λ_ _=>?_);refine⟨kq 12 z,(by rcases hA with rfl|rfl|rfl <;>rcases hB with rfl|rfl|rfl <;>rcases hD with rfl|rfl <;>kernel_rfl),?_⟩;refine CUTV (2010+(a*6+b*2+d)) (exL last (O (a*6+b*2+d))).length (e:=3) (sz:=1) (by rcases hA with rfl|rfl|rfl <;>rcases hB with rfl|rfl|rfl <;>rcases hD with rfl|rfl <;>kernel_rfl) (exL_map last (O (a*6+b*2+d))) ?_;refine GO (tn 7 (kp qa (kp qb (kp qd (tn 1 z))))) (by rcases hA with rfl|rfl|rfl <;>rcases hB with rfl|rfl|rfl <;>rcases hD with rfl|rfl <;>kernel_rfl) ?_;exact LEAF .normal (by rcases hA with rfl|rfl|rfl <;>rcases hB with rfl|rfl|rfl <;>rcases hD with rfl|rfl <;>kernel_rfl) (WK (by rcases hA with rfl|rfl|rfl <;>rcases hB with rfl|rfl|rfl <;>rcases hD with rfl|rfl <;>kernel_rfl)) ⟨(),trivial,rfl,rfl⟩
def exO(O:Ops)(last:Int)(k:Nat):Ops:=λj=>cond (decide (j<k)) (exL last (O j)) (O j)
theorem exL_le(last:Int)(l:List Int):(exL last l).length<=l.length:=by rw[exL_len];exact exN_le _ _ _
theorem exO_le{O:Ops}(hO:∀ i,(O i).length<=1073741824)(last:Int)(k i:Nat):(exO O last k i).length<=1073741824:=by
 unfold exO;cases decide (i<k)with
 |true=>exact Nat.le_trans (exL_le _ _) (hO i)
 |false=>exact hO i
theorem upd_exO(O:Ops)(last:Int)(k:Nat):updO (exO O last k) k (exL last (exO O last k k))=exO O last (k+1):=by
 funext j;unfold updO
 by_cases h:j=k
 ·subst h;rw[show Nat.beq j j=true from Nat.beq_refl j,cond_true];simp[exO]
 ·rw[show Nat.beq j k=false by rw[<-Bool.not_eq_true,Nat.beq_eq];exact h,cond_false];unfold exO;rw[show decide (j<k+1)=decide (j<k) by rw[decide_eq_decide];omega]
theorem exc_to(ps:List DPiece)(els:List DEm)(O:Ops)(prs:List AV)(last:Int)(hO:∀ i,(O i).length<=1073741824):
  Va2 Tryz.prog 291 [.ptr 1000 0,jI last] (stB ps els O prs) [] Vas (stB ps els (λj=>exL last (O j)) prs) []:=by
 refine bGs Tryz.func291 ?_;refine gO (tn 1 z) ?_;refine LP (n:=4) (λN M S=>∃ a:Nat,a<=3/\3-a<N/\M=()/\S=exX ps els (exO O last (a*6)) prs last [(8,jI ((a:Nat):Int))]) kx ⟨0,by omega,by omega,rfl,rfl⟩ (WK kx) ?_;rintro n0 M S ⟨a,ha,hF0,rfl,rfl⟩;obtain⟨n0,rfl⟩:∃ k,n0=k+1:=⟨n0-1,by omega⟩
 by_cases h1:a<3
 ·have hda:decide (((a:Nat):Int)<3)=true:=decide_eq_true kv
  have hwa:IntKind.i64.wrap (((a:Nat):Int)+1)=((a+1:Nat):Int):=wrE _ _ kv;refine gO (tn 1 (kb hda (tn 3 z))) ?_;refine LP (n:=4) (λN M S=>∃ b:Nat,b<=3/\3-b<N/\M=()/\S=exX ps els (exO O last (a*6+b*2)) prs last [(4,jI ((a:Nat):Int)),(8,jI ((a:Nat):Int)),(11,jI ((b:Nat):Int))]) kx ⟨0,by omega,by omega,rfl,rfl⟩ (WK kx) ?_;rintro n1 M S ⟨b,hb,hF1,rfl,rfl⟩;obtain⟨n1,rfl⟩:∃ k,n1=k+1:=⟨n1-1,by omega⟩
  by_cases h2:b<3
  ·have hdb:decide (((b:Nat):Int)<3)=true:=decide_eq_true kv
   have hwb:IntKind.i64.wrap (((b:Nat):Int)+1)=((b+1:Nat):Int):=wrE _ _ kv;refine gO (tn 1 (kb hdb (tn 3 z))) ?_;refine LP (n:=3) (λN M S=>∃ d:Nat,d<=2/\2-d<N/\M=()/\S=exX ps els (exO O last (a*6+b*2+d)) prs last [(4,jI ((a:Nat):Int)),(5,jI ((b:Nat):Int)),(8,jI ((a:Nat):Int)),(11,jI ((b:Nat):Int)),(14,jI ((d:Nat):Int))]) kx ⟨0,by omega,by omega,rfl,rfl⟩ (WK kx) ?_;rintro n2 M S ⟨d,hd,hF2,rfl,rfl⟩;obtain⟨n2,rfl⟩:∃ k,n2=k+1:=⟨n2-1,by omega⟩
   by_cases h3:d<2
   ·have hdd:decide (((d:Nat):Int)<2)=true:=decide_eq_true kv
    have hwd:IntKind.i64.wrap (((d:Nat):Int)+1)=((d+1:Nat):Int):=wrE _ _ kv
    have ht:=ex_tail ps els (exO O last (a*6+b*2+d)) prs last a b d h1 h2 h3 (exO_le hO last _);rw[upd_exO]at ht;refine gO (tn 1 (kb hdd (kq 9 (tn 2 z)))) ?_;refine NXE 1 (exX ps els (exO O last (a*6+b*2+d)) prs last (exR a b d)) (λ_:Unit=>True) (λ_=>.normal) (λ_=>exX ps els (exO O last (a*6+b*2+d+1)) prs last (exR a b d)) kx (WK kx) kx ht (λ_ _=>?_);refine⟨kn hwd (tn 1 z),by kernel_rfl,?_⟩;exact AG (m:=n2) ⟨d+1,by omega,by omega,rfl,rfl⟩ (WK kx) kx (Zb _)
   ·have hd2:d=2:=by omega
    subst hd2;refine gO (tn 1 (kb (b:=false) (d:=false) rfl z)) ?_;refine OUT (kn hwb (tn 1 z)) kx ?_;exact AG (m:=n1) (S'':=exX ps els (exO O last (a*6+b*2+2)) prs last [(4,jI ((a:Nat):Int)),(8,jI ((a:Nat):Int)),(11,jI ((b+1:Nat):Int))]) ⟨b+1,by omega,by omega,rfl,by rw[show a*6+(b+1)*2=a*6+b*2+2 by omega]⟩ (WK kx) kx (Zb _)
  ·have hb3:b=3:=by omega
   subst hb3;refine gO (tn 1 (kb (b:=false) (d:=false) rfl z)) ?_;refine OUT (kn hwa (tn 1 z)) kx ?_;exact AG (m:=n0) (S'':=exX ps els (exO O last (a*6+3*2)) prs last [(8,jI ((a+1:Nat):Int))]) ⟨a+1,by omega,by omega,rfl,by rw[show(a+1)*6=a*6+3*2 by omega]⟩ (WK kx) kx (Zb _)
 ·have ha3:a=3:=by omega
  subst ha3;refine gO (tn 1 (kb (b:=false) (d:=false) rfl z)) ?_;refine OUT z kx ?_;exact eNs
end Go.Proofs.YthbpjmogdonlkaaGreatDoor
namespace Go.Eng
open Go
theorem Vop{P:Program}{o:Oper}{S:St}{t:TypeId}{parts:Array (Nat×Operand)}{sz bt:Nat}{z:Value}{pl:List (Nat×Nat)}{ps:List (Nat×AV)}{r:List AV}(ho:o.op=.build t parts)(hi:Vak P t=some (sz,bt,some z))
  (h1:z.cells.toList.all (λc=>c.oneCell')=true) (hpl:Vf9 P t=some pl) (hp:Vdz S parts.toList=some ps) (hf:aFill pl (z.cells.toList.map .val) ps=some r):Sound P o S ⟨True,.av (.agg r),S⟩:=
 Sound.still λ_ G w a hr=>by
  have h1':∀ x∈z.cells.toList,x.oneCell'=true:=λc hc=>Zn.1 h1 c hc
  obtain⟨g1,g2⟩:=Vep hr hp;unfold Vf9 at hpl
  split at hpl
  ·rename_i fs hu;obtain⟨us',f1,f2,f3⟩:=Vg3 (U:=G.U) (w:=w) pl (λi=>pl[i]?) (λi=>rfl) ps _ _ r z.cells g1 g2 (RepL_val _ h1') h1' hf;refine⟨.agg us',?_,?_⟩
   ·have hm:=run_places w fs.toList pl hpl
    have hm2:(fs.mapM (λf=>do pure (f.offset, <-sizeOf f.type)):Sem (Array (Nat×Nat))).run P w=.ok pl.toArray w:=by
     rw[Array.mapM_eq_mapM_toList];simp only[Sem.run_map,hm,Result.andThen_ok]
    simp only[bind_pure_comp]at hm2
    have hl:(parts.map λ(x:Nat×Operand)=>(x.1,a.eval x.2)).toList=parts.toList.map (λp=>(p.1,a.eval p.2)):=by simp
    simp[execOp,ho,Instr.build,Vam hi,Va0 hu,hm2,f1]
   ·simp only[RepS,Rep];exact⟨us',rfl,f2,f3⟩
  ·simp at hpl
end Go.Eng
namespace Go.Proofs.YthbpjmogdonlkaaGreatDoor
open Go Go.Eng
def lf(els:List DEm)(k:Int):Int:=(el els k.toNat).fleft
def nx(els:List DEm)(k:Int):Int:=(el els k.toNat).fnext
def bf(els:List DEm)(k:Int):Int:=(el els k.toNat).fbefore
def pc(els:List DEm)(k:Int):Int:=(el els k.toNat).fpiece
def mkE(x:DInline):DEm:=DEm.mk x false 0 0 0 0
def prN(els:List DEm)(o c:Int):Int:=cond (cond (decide (lf els o>=2)) (decide (lf els c>=2)) false) 2 1
def prK(ps:List DPiece)(els:List DEm)(c n:Int):Int:=cond (eqs (el ps (pc els c).toNat).fChar ⟨#[126]⟩) 8 (cond (n==2) 7 6)
def prI(k:Int)(kids:List DInline):DInline:=DInline.mk k ⟨#[]⟩ ⟨#[]⟩ ⟨#[]⟩ ⟨⟨#[]⟩,[],[]⟩ [] [] kids
def pr2(els:List DEm)(o c:Int):List DEm:=setP (setN els o.toNat c) c.toNat o
def pr3(ps:List DPiece)(els:List DEm)(o c:Int)(m:Nat):List DEm:=insM (pr2 els o c) (mkE (prI (prK ps els c (prN els o c)) (btM ps els c m (nx els o)))) c
def pr4(els:List DEm)(o n:Int):List DEm:=setL els o.toNat (lf els o-n)
def pr5(ps:List DPiece)(els:List DEm)(o c:Int)(m:Nat):List DEm:=pr4 (pr4 (pr3 ps els o c m) o (prN els o c)) c (prN els o c)
def prR(els:List DEm)(k:Int):List DEm:=cond (lf els k==0) (remM els k) els
def pr6(ps:List DPiece)(els:List DEm)(o c:Int)(m:Nat):List DEm:=prR (pr5 ps els o c m) o
def pr7(ps:List DPiece)(els:List DEm)(o c:Int)(m:Nat):List DEm:=prR (pr6 ps els o c m) c
def prL(ps:List DPiece)(els:List DEm)(o c:Int)(m:Nat):Int:=cond (lf (pr5 ps els o c m) o==0) (o-1) o
def prP(els:List DEm)(o c:Int):AV:=.agg [vI (pc els o),vI (pc els c),vI (prN els o c)]
theorem Vdy(els:List DEm)(o c:Int):(pr2 els o c).length=els.length:=by simp[pr2,setP,setN,Vc7]
theorem Vgn(ps:List DPiece)(els:List DEm)(o c:Int)(m:Nat):(pr3 ps els o c m).length=els.length+1:=by rw[pr3,Vhb,Vdy]
theorem Vi8(els:List DEm)(o n:Int):(pr4 els o n).length=els.length:=by rw[pr4,setL,Vc7]
theorem Vnf(els:List DEm)(k:Int):(prR els k).length=els.length:=by
 unfold prR;cases(lf els k==0)with
 |true=>exact remM_len els k
 |false=>rfl
theorem pr5_len(ps:List DPiece)(els:List DEm)(o c:Int)(m:Nat):(pr5 ps els o c m).length=els.length+1:=by rw[pr5,Vi8,Vi8,Vgn]
structure PrOk (ps:List DPiece) (els:List DEm) (o c:Int) (m:Nat):Prop where
 ho:Ix els o
 hc:Ix els c
 hpc:0<=pc els c/\pc els c<ps.length
 hbt:BtOk ps els c m (nx els o)
 hm:m<=1073741824
 hbf:Ix (pr2 els o c) (bf (pr2 els o c) c)
 h3: -1<=lf (pr3 ps els o c m) o/\lf (pr3 ps els o c m) o<=1073741824
 h4: -1<=lf (pr4 (pr3 ps els o c m) o (prN els o c)) c/\lf (pr4 (pr3 ps els o c m) o (prN els o c)) c<=1073741824
 h5:lf (pr5 ps els o c m) o=0->Ix (pr5 ps els o c m) (bf (pr5 ps els o c m) o)/\Ix (pr5 ps els o c m) (nx (pr5 ps els o c m) o)
 h6:lf (pr6 ps els o c m) c=0->Ix (pr6 ps els o c m) (bf (pr6 ps els o c m) c)/\Ix (pr6 ps els o c m) (nx (pr6 ps els o c m) c)
def stN(ps:List DPiece)(n:Nat)(els:List DEm)(O:Ops)(m:Nat)(prs:List AV):List (Nat×ABox):=[(1000,stC ps n O m),(2001,emB els),(2002,.vec 201 3 prs)]++(Zz 18).map (opB O)
theorem Vn1{ps:List DPiece}{n m:Nat}{els:List DEm}{O:Ops}{prs:List AV}(h:els.length=n)(h2:prs.length=m):stB ps els O prs=stN ps n els O m prs:=by subst h h2;rfl
theorem GHW{P:Program}{α:Type}{K:α->Exit->St->Prop}{M:α}{X:Cf}(S':St)(hw:Weak (stOf X) S')(hn:Nx P K M (reSt X S')):Nx P K M X:=Voc (λG w a h=>⟨G,Step.refl G w,hw G w a h,λ_ _=>rfl⟩) hn
theorem pai_to(ps:List DPiece)(els:List DEm)(O:Ops)(prs:List AV)(o c:Int)(m:Nat)(hP:PrOk ps els o c m)(hn:els.length<274877906944)(hpl:prs.length<=274877906944)(hO:∀ i,(O i).length<=1073741824):
  Va2 Tryz.prog 249 [.ptr 1000 0,jI o,jI c] (stB ps els O prs) [] Vas (stB ps (pr7 ps els o c m) (λj=>exL (prL ps els o c m) (O j)) (prs++[prP els o c])) []:=by
 have hl2:=Vdy els o c
 have hl3:=Vgn ps els o c m
 have heo:=Vcc els o hP.ho.1 hP.ho.2
 have hec:=Vcc els c hP.hc.1 hP.hc.2
 have hep:=Vii ps (pc els c) hP.hpc.1 hP.hpc.2
 have hbw:=bw_to ps els O prs o c m hP.ho hP.hbt hP.hm;obtain⟨kids,hkids⟩:∃ k,k=btM ps els c m (nx els o):=⟨_,rfl⟩
 rw[show(el els o.toNat).fnext=nx els o from rfl, <-hkids]at hbw
 have hc2:Ix (pr2 els o c) c:=⟨hP.hc.1,by rw[hl2];exact hP.hc.2⟩
 have hins:=ins_to ps (pr2 els o c) O prs (mkE (prI (prK ps els c (prN els o c)) kids)) c (by rw[hl2];omega) hc2 hP.hbf
 have hnn:1<=prN els o c/\prN els o c<=2:=by
  unfold prN;cases(cond (decide (lf els o>=2)) (decide (lf els c>=2)) false) <;>decide
 obtain⟨e3,he3⟩:∃ e,e=pr3 ps els o c m:=⟨_,rfl⟩
 rw[show insM (pr2 els o c) (mkE (prI (prK ps els c (prN els o c)) kids)) c=e3 by rw[he3,pr3,hkids]]at hins;obtain⟨e5,he5⟩:∃ e,e=pr5 ps els o c m:=⟨_,rfl⟩
 have h3:=hP.h3;have h4:=hP.h4;have h5:=hP.h5;have h6:=hP.h6;unfold pr7 prL;unfold pr6 at h6 ⊢;rw[<-he5]at h5 h6 ⊢;unfold pr5 at he5;rw[<-he3]at h3 h4 hl3 he5;obtain⟨e4,he4⟩:∃ e,e=pr4 e3 o (prN els o c):=⟨_,rfl⟩
 rw[<-he4]at h4 he5
 have hl4:e4.length=els.length+1:=by rw[he4,Vi8,hl3]
 have hl5:e5.length=els.length+1:=by rw[he5,Vi8,hl4]
 have hlp:(prs++[prP els o c]).length=prs.length+1:=by simp
 rw[Vn1 hl2 rfl,Vn1 hl3 rfl]at hins
 have hl6:(prR e5 o).length=els.length+1:=by rw[Vnf,hl5]
 have hl7:(prR (prR e5 o) c).length=els.length+1:=by rw[Vnf,hl6]
 rw[Vn1 hl7 hlp];obtain⟨e6,he6⟩:∃ e,e=prR e5 o:=⟨_,rfl⟩
 obtain⟨e7,he7⟩:∃ e,e=prR e6 c:=⟨_,rfl⟩
 rw[<-he6]at h6 hl6 hl7 ⊢;rw[<-he7]at hl7 ⊢;obtain⟨last,hlast⟩:∃ l,l=cond (lf e5 o==0) (o-1) o:=⟨_,rfl⟩
 rw[<-hlast]
 have hexc:=exc_to ps e7 O (prs++[prP els o c]) last hO;rw[Vn1 hl7 hlp,Vn1 hl7 hlp]at hexc;unfold prR at he6 he7
 have hio:=hP.ho;have hic:=hP.hc
 have ho3:Ix e3 o:=⟨hio.1,by have:=hio.2;omega⟩
 have hc4:Ix e4 c:=⟨hic.1,by have:=hic.2;omega⟩
 have ho5:Ix e5 o:=⟨hio.1,by have:=hio.2;omega⟩
 have hw3:IntKind.i64.wrap (lf e3 o-prN els o c)=lf e3 o-prN els o c:=wrE _ _ kv
 have hw4:IntKind.i64.wrap (lf e4 c-prN els o c)=lf e4 c-prN els o c:=wrE _ _ kv
 have hwo:IntKind.i64.wrap (o-1)=o-1:=wrE _ _ (by have:=hio.1;have:=hio.2;omega)
 have hs1:=set_emN els o.toNat c (by have:=hio.1;have:=hio.2;omega)
 have hic1:Ix (setN els o.toNat c) c:=⟨hic.1,by rw[setN,Vc7];exact hic.2⟩
 have hs2:((setN els o.toNat c).map aEm).set c.toNat ((((setN els o.toNat c).map aEm).getD c.toNat (.val undef)).upd 13 (vI o))=(pr2 els o c).map aEm:=set_emP _ c.toNat o (by have:=hic1.1;have:=hic1.2;omega)
 have hs4:(e3.map aEm).set o.toNat (((e3.map aEm).getD o.toNat (.val undef)).upd 12 (vI (lf e3 o-prN els o c)))=e4.map aEm:=by rw[he4];exact set_emL e3 o.toNat _ (by have:=ho3.1;have:=ho3.2;omega)
 have hs5:(e4.map aEm).set c.toNat (((e4.map aEm).getD c.toNat (.val undef)).upd 12 (vI (lf e4 c-prN els o c)))=e5.map aEm:=by rw[he5];exact set_emL e4 c.toNat _ (by have:=hc4.1;have:=hc4.2;omega)
 have hup:Uni 3 [prP els o c]:=by
  intro y hy;simp only[Za,Zc,or_false]at hy;subst hy;exact⟨rfl,rfl⟩
 have hap:prs.length<=prs.length/\Uni 3 [prP els o c]/\(prs.length+([prP els o c]:List AV).length)*24<=140737488355328:=⟨Nat.le_refl _,hup,by simp;omega⟩
 have hpt:prs.take prs.length++[prP els o c]=prs++[prP els o c]:=by rw[List.take_length]
 have hq1:0<=o/\o<((els.length:Nat):Int):=hio
 have hq2:0<=c/\c<((els.length:Nat):Int):=hic
 have ho3n:0<=o/\o<((els.length+1:Nat):Int):=⟨hio.1,by have:=hio.2;omega⟩
 have hc4n:0<=c/\c<((els.length+1:Nat):Int):=⟨hic.1,by have:=hic.2;omega⟩
 have heo3:=Vcc e3 o ho3.1 ho3.2
 have hec4:=Vcc e4 c hc4.1 hc4.2
 have heo5:=Vcc e5 o ho5.1 ho5.2
 have hc6:Ix e6 c:=⟨hic.1,by have:=hic.2;omega⟩
 have hec6:=Vcc e6 c hc6.1 hc6.2;refine bGs Tryz.func249 ?_;refine gO z ?_;refine DR3 (tn 5 (kp hP.ho (tn 1 (ke heo (tn 5 (kp hP.hc (tn 1 (ke hec (tn 8 (kp hP.ho (tn 1 (ke heo (tn 2 (kj (decide (lf els o>=2)) (tn 5 (hp (λ_=>hP.hc) (tn 1 (he (λ_=>hec) (tn 1 z))))) z (ks (cond (decide (lf els o>=2)) (decide (lf els c>=2)) false) [8] (tn 1 z) z (tn 3 (kg hbw trivial (tn 8 (ke hep (tn 4 z)))))))))))))))))))) kx kx kx ?_
 have hk3:(eqs (el ps (pc els c).toNat).fChar ⟨#[126]⟩=true/\prK ps els c (prN els o c)=8)\/(eqs (el ps (pc els c).toNat).fChar ⟨#[126]⟩=false/\(prN els o c==2)=true/\prK ps els c (prN els o c)=7)\/(eqs (el ps (pc els c).toNat).fChar ⟨#[126]⟩=false/\(prN els o c==2)=false/\prK ps els c (prN els o c)=6):=by
  unfold prK;cases eqs (el ps (pc els c).toNat).fChar ⟨#[126]⟩ <;>cases(prN els o c==2) <;>simp
 rcases hk3 with⟨hk1,hkd⟩|⟨hk1,hk2,hkd⟩|⟨hk1,hk2,hkd⟩
 all_goals rw[hkd]at hins
 case' inl=>
  refine gO (kb hk1 (kq 9 (tn 2 z))) ?_
 case' inr.inl=>
  refine gO (kb hk1 (tn 3 (kb hk2 (kq 9 (tn 2 z))))) ?_
 case' inr.inr=>
  refine gO (kb hk1 (tn 3 (kb hk2 (kq 9 z)))) ?_
 all_goals
  refine gO (tn 6 (kp hq1 (tn 1 (kp (Vok els o 14 c gj hio) (kq 10 z))))) ?_;refine BOX (e:=230) (sz:=15) 2001 kx hs1 ?_;refine gO (tn 6 (kp hq2 (tn 1 (kp (Vok (setN els o.toNat c) c 13 o gj hic1) (kq 11 z))))) ?_;refine BOX (e:=230) (sz:=15) 2001 kx hs2 ?_;refine gO (tn 4 (kg hins trivial (tn 9 (kp hup (kp hap (kq 13 (tn 3 z))))))) ?_;refine BOX (e:=201) (sz:=3) 2002 kx hpt ?_;refine GHW (sx 155 [(0,.ptr 1000 0),(1,jI o),(2,jI c),(8,jI (prN els o c))] (stN ps (els.length+1) e3 O (prs.length+1) (prs++[prP els o c])) []) (WK kx) ?_;refine gO (tn 5 (kp ho3n (tn 1 (ke heo3 (tn 1 (kn hw3 (kp ho3n (tn 1 (kp (Vok e3 o 12 (lf e3 o-prN els o c) gj ho3) (kq 14 z)))))))))) ?_;refine BOX (e:=230) (sz:=15) 2001 kx hs4 ?_;refine gO (tn 5 (kp hc4n (tn 1 (ke hec4 (tn 1 (kn hw4 (kp hc4n (tn 1 (kp (Vok e4 c 12 (lf e4 c-prN els o c) gj hc4) (kq 15 z)))))))))) ?_;refine BOX (e:=230) (sz:=15) 2001 kx hs5 ?_;refine gO (tn 7 (kp ho3n (tn 1 (ke heo5 (tn 1 z))))) ?_;cases hr1:(lf e5 o==0)
  case' true=>
   obtain⟨x1,x2⟩:=h5 (eq_of_beq hr1)
   have hrem:=rem_to ps e5 O (prs++[prP els o c]) o ho5 x1 x2;rw[hr1,cond_true]at he6 hlast;rw[<-he6,Vn1 hl5 hlp,Vn1 hl6 hlp]at hrem;subst hlast;refine gO (kb hr1 (tn 2 (kg hrem trivial (tn 1 (kn hwo (tn 6 (kp hc4n (tn 1 (ke hec6 (tn 1 z)))))))))) ?_
  case' false=>
   rw[hr1,cond_false]at he6 hlast
   have hlast:=hlast.symm;subst hlast he6;refine gO (kb hr1 (tn 5 (kp hc4n (tn 1 (ke hec6 (tn 1 z)))))) ?_
  all_goals
   cases hr2:(lf e6 c==0)
   case' true=>
    obtain⟨x1,x2⟩:=h6 (eq_of_beq hr2)
    have hrem:=rem_to ps e6 O (prs++[prP els o c]) c hc6 x1 x2;rw[hr2,cond_true]at he7;rw[<-he7,Vn1 hl6 hlp,Vn1 hl7 hlp]at hrem;refine gO (kb hr2 (tn 2 (kg hrem trivial (tn 2 (kg hexc trivial z))))) ?_
   case' false=>
    rw[hr2,cond_false]at he7;subst he7;refine gO (kb hr2 (tn 2 (kg hexc trivial z))) ?_
   all_goals exact eNs
theorem opL_eq(v:Nat)(h1:v<6):opL v=((v / 2:Nat):Int):=by
 have h2:((v:Nat):Int).tdiv 2=((v / 2:Nat):Int):=by rw[Int.tdiv_eq_ediv_of_nonneg kv];rfl
 unfold opL;rw[h2];exact wrE _ _ kv
theorem op_tail(ps:List DPiece)(els:List DEm)(O:Ops)(prs:List AV)(c near:Int)(cl:DPiece)(v:Nat)(h1:v<6)(hc:Ix els c)(hO:∀ i,(O i).length<=1073741824):
  Nx Tryz.prog (QW (opQ ps els O prs c cl (opS (el els c.toNat).fbefore near (O (chrN cl.fChar*6+v)).reverse) v)) () (startR 9 (Vbc Tryz.f248) (opX ps els O prs c near cl [(9,jI (opL v)),(10,jI (((v:Nat):Int).tmod 2)),(27,jI ((v:Nat):Int))])):=by
 have hch:=chrN_lt cl.fChar
 have hcc:=chr_to cl.fChar;generalize chrN cl.fChar=ch at hch hcc
 have hn0:=hO (ch*6+v)
 have hnl:IntKind.i64.wrap ((((O (ch*6+v)).length:Nat):Int)-1)=(((O (ch*6+v)).length:Nat):Int)-1:=wrE _ _ kv
 have hc3:0<=((ch:Nat):Int)/\((ch:Nat):Int)<((3:Nat):Int):=⟨by omega,by omega⟩
 have hv3:0<=opL v/\opL v<((3:Nat):Int):=by rw[opL_eq v h1];exact⟨by omega,by omega⟩
 have hv2:0<=((v:Nat):Int).tmod 2/\((v:Nat):Int).tmod 2<((2:Nat):Int):=⟨Int.tmod_nonneg _ kv,Int.tmod_lt_of_pos _ gj⟩
 have hV:v=0\/v=1\/v=2\/v=3\/v=4\/v=5:=by omega
 have hC:ch=0\/ch=1\/ch=2:=by omega
 have hI:I18 (ch*6+v):=by unfold I18;omega
 refine DR3 (tn 3 (kc hcc (tn 4 (kp hc3 (kp hv3 (kp hv2 (tn 4 (kn hnl (tn 1 z))))))))) kx (by rcases hV with rfl|rfl|rfl|rfl|rfl|rfl <;>rcases hC with rfl|rfl|rfl <;>kernel_rfl) (by rcases hV with rfl|rfl|rfl|rfl|rfl|rfl <;>rcases hC with rfl|rfl|rfl <;>kernel_rfl) ?_;refine NXE 1 (opY ps els O prs c near cl (ch*6+v) v (((O (ch*6+v)).length:Int)-1)) (λ_:Bool=>True) (λb=>cond b (.exit 1) .normal) (λ_=>opX ps els O prs c (opS (el els c.toNat).fbefore near (O (ch*6+v)).reverse) cl [(27,jI ((v:Nat):Int))]) (by rcases hV with rfl|rfl|rfl|rfl|rfl|rfl <;>rcases hC with rfl|rfl|rfl <;>kernel_rfl) (WK (by rcases hV with rfl|rfl|rfl|rfl|rfl|rfl <;>rcases hC with rfl|rfl|rfl <;>kernel_rfl)) (by rcases hV with rfl|rfl|rfl|rfl|rfl|rfl <;>rcases hC with rfl|rfl|rfl <;>kernel_rfl) (op_in ps els O prs c near cl (ch*6+v) v hI hc hn0) (λb _=>?_);refine⟨z,by cases b <;>(rcases hV with rfl|rfl|rfl|rfl|rfl|rfl <;>rcases hC with rfl|rfl|rfl <;>kernel_rfl),?_⟩;exact LEAF (cond b (.exit 1) .normal) (by cases b <;>(rcases hV with rfl|rfl|rfl|rfl|rfl|rfl <;>rcases hC with rfl|rfl|rfl <;>kernel_rfl)) (WK (by cases b <;>(rcases hV with rfl|rfl|rfl|rfl|rfl|rfl <;>rcases hC with rfl|rfl|rfl <;>kernel_rfl))) ⟨b,trivial,rfl,rfl⟩
theorem ope_to(ps:List DPiece)(els:List DEm)(O:Ops)(prs:List AV)(c:Int)(hc:Ix els c)(hp:0<=(el els c.toNat).fpiece/\(el els c.toNat).fpiece<ps.length)(hN:0<=(clO ps els c).fN/\(clO ps els c).fN<=1073741824)(hO:∀ i,(O i).length<=1073741824):
  Va2 Tryz.prog 248 [.ptr 1000 0,jI c] (stB ps els O prs) [] (opR (opM O (clO ps els c) (el els c.toNat).fbefore)) (stB ps els O prs) []:=by
 obtain⟨cl,hcl⟩:∃ cl,cl=clO ps els c:=⟨_,rfl⟩
 obtain⟨bef,hbef⟩:∃ b,b=(el els c.toNat).fbefore:=⟨_,rfl⟩
 rw[<-hcl]at hN
 have hep:=Vii ps (el els c.toNat).fpiece hp.1 hp.2;rw[show el ps (el els c.toNat).fpiece.toNat=cl from hcl.symm]at hep
 have hec:=Vcc els c hc.1 hc.2;rw[<-hcl, <-hbef];refine bGs Tryz.func248 ?_;refine gO (tn 2 z) ?_;refine DR3 (tn 9 (kp hc (tn 1 (ke hec (ke hep (tn 5 z)))))) kx kx kx ?_;refine LP (n:=7) (λN M S=>∃(v:Nat)(near:Int),v<=6/\opF O cl bef (6-v) v near=opM O cl bef/\6-v<N/\M=()/\S=opX ps els O prs c near cl [(27,jI ((v:Nat):Int))]) kx ⟨0,0,by omega,rfl,by omega,rfl,rfl⟩ (WK kx) ?_;rintro n0 M S ⟨v,near,hv,hm,hF0,rfl,rfl⟩;obtain⟨n0,rfl⟩:∃ k,n0=k+1:=⟨n0-1,by omega⟩
 by_cases h1:v<6
 ·have hm2:opF O cl bef (6-(v+1)) (v+1) (opK O cl bef v near)=opM O cl bef:=by
   rw[show 6-v=(6-(v+1))+1 by omega]at hm;exact hm
  unfold opK at hm2
  have hd:decide (((v:Nat):Int)<6)=true:=decide_eq_true kv
  have hv1:IntKind.i64.wrap (((v:Nat):Int)+1)=((v+1:Nat):Int):=wrE _ _ kv
  have hvL:=opL_eq v h1
  have hw:IntKind.i64.wrap (opL v+cl.fN)=opL v+cl.fN:=by
   rw[hvL];exact wrE _ _ kv
  by_cases hsk:opA cl v=true/\opC cl v=true
  ·obtain⟨hA,hB⟩:=hsk;rw[hA,hB]at hm2;refine gO (tn 1 (kb hd (tn 3 (kp (show ¬((2:Int)=0) by decide) (tn 1 (kp (show ¬((2:Int)=0) by decide) (tn 5 (kj ((((v:Nat):Int).tmod 2)==1) z (tn 2 z) (tn 1 (kj (cond ((((v:Nat):Int).tmod 2)==1) true cl.fOpen) (tn 3 z) z (kb hA (tn 3 (kn hw (kp (show ¬((3:Int)=0) by decide) (tn 2 (kj (((opL v+cl.fN).tmod 3)==0) (tn 2 z) z (kb hB (kn hv1 (tn 1 z))))))))))))))))))) ?_;exact AG (m:=n0) ⟨v+1,near,by omega,hm2,by omega,rfl,rfl⟩ (WK kx) kx (Zb _)
  ·have hm3:opF O cl bef (6-(v+1)) (v+1) (opS bef near (O (chrN cl.fChar*6+v)).reverse)=opM O cl bef:=by
    rw[<-hm2];cases hA:opA cl v with
    |false=>rfl
    |true=>
     cases hB:opC cl v with
     |false=>rfl
     |true=>exact absurd ⟨hA,hB⟩ hsk
   clear hm2;cases hA:opA cl v
   case' false=>
    refine gO (tn 1 (kb hd (tn 3 (kp (show ¬((2:Int)=0) by decide) (tn 1 (kp (show ¬((2:Int)=0) by decide) (tn 5 (kj ((((v:Nat):Int).tmod 2)==1) z (tn 2 z) (tn 1 (kj (cond ((((v:Nat):Int).tmod 2)==1) true cl.fOpen) (tn 3 z) z (kb hA z))))))))))) ?_
   case' true=>
    have hB:opC cl v=false:=by
     cases hB:opC cl v with
     |false=>rfl
     |true=>exact absurd ⟨hA,hB⟩ hsk
    refine gO (tn 1 (kb hd (tn 3 (kp (show ¬((2:Int)=0) by decide) (tn 1 (kp (show ¬((2:Int)=0) by decide) (tn 5 (kj ((((v:Nat):Int).tmod 2)==1) z (tn 2 z) (tn 1 (kj (cond ((((v:Nat):Int).tmod 2)==1) true cl.fOpen) (tn 3 z) z (kb hA (tn 3 (kn hw (kp (show ¬((3:Int)=0) by decide) (tn 2 (kj (((opL v+cl.fN).tmod 3)==0) (tn 2 z) z (kb hB z))))))))))))))))) ?_
   all_goals
    refine NXE 1 (opX ps els O prs c near cl [(9,jI (opL v)),(10,jI (((v:Nat):Int).tmod 2)),(27,jI ((v:Nat):Int))]) (λ_:Bool=>True) (λb=>cond b (.exit 1) .normal) (λ_=>opX ps els O prs c (opS (el els c.toNat).fbefore near (O (chrN cl.fChar*6+v)).reverse) cl [(27,jI ((v:Nat):Int))]) kx (WK kx) kx (op_tail ps els O prs c near cl v h1 hc hO) (λb _=>?_);rw[<-hbef];refine⟨kn hv1 (tn 1 z),by cases b <;>kernel_rfl,?_⟩;cases b
    all_goals exact AG (m:=n0) ⟨v+1,_,by omega,hm3,by omega,rfl,rfl⟩ (WK kx) kx (Zb _)
 ·have hv6:v=6:=by omega
  subst hv6
  have hd:decide (((6:Nat):Int)<6)=false:=rfl
  have hm:near=opM O cl bef:=hm;rw[<-hm];refine gO (tn 1 (kb hd z)) ?_;refine OUT (tn 5 z) kx ?_;exact eNs
structure ES where
 els:List DEm
 O:Ops
 prs:List AV
def esB(ps:List DPiece)(s:ES):List (Nat×ABox):=stB ps s.els s.O s.prs
def esO(ps:List DPiece)(s:ES)(c:Int):Int:=opM s.O (el ps (pc s.els c).toNat) (bf s.els c)
def esP(ps:List DPiece)(s:ES)(o c:Int):ES:=⟨pr7 ps s.els o c s.els.length,λj=>exL (prL ps s.els o c s.els.length) (s.O j),s.prs++[prP s.els o c]⟩
def clM(ps:List DPiece)(c:Int):Nat->ES->ES
 |0,s=>s
 |n+1,s=>cond (decide (lf s.els c>0)) (cond (decide (esO ps s c>0)) (clM ps c n (esP ps s (esO ps s c) c)) s) s
def ClOk(ps:List DPiece)(c:Int):Nat->ES->Prop
  |0,s=>Ix s.els c/\¬ lf s.els c>0
  |n+1,s=>Ix s.els c/\(lf s.els c>0->((0<=pc s.els c/\pc s.els c<ps.length)/\(0<=(el ps (pc s.els c).toNat).fN/\(el ps (pc s.els c).toNat).fN<=1073741824)/\(∀i,(s.O i).length<=1073741824))/\
      (esO ps s c>0->(PrOk ps s.els (esO ps s c) c s.els.length/\s.els.length<274877906944/\s.prs.length<=274877906944)/\ClOk ps c n (esP ps s (esO ps s c) c)))
theorem clo_to(ps:List DPiece)(c:Int)(n:Nat)(s:ES)(h:ClOk ps c n s):Va2 Tryz.prog 200 [.ptr 1000 0,jI c] (esB ps s) [] Vas (esB ps (clM ps c n s)) []:=by
 refine bGs Tryz.func200 ?_;refine gO z ?_;refine LP (n:=n+1) (λN M S=>∃(m:Nat)(t:ES),ClOk ps c m t/\clM ps c m t=clM ps c n s/\m<N/\M=()/\S=sx 27 [(0,.ptr 1000 0),(1,jI c)] (esB ps t) []) kx ⟨n,s,h,rfl,by omega,rfl,rfl⟩ (WK kx) ?_;rintro n0 M S ⟨m,t,hk,hm,hF0,rfl,rfl⟩;obtain⟨n0,rfl⟩:∃ k,n0=k+1:=⟨n0-1,by omega⟩
 obtain⟨els,O,prs⟩:=t
 have hi:Ix els c:=by cases m <;>exact hk.1
 have hec:=Vcc els c hi.1 hi.2;cases hl:decide (lf els c>0)with
 | false=>
  have hc:clM ps c m ⟨els,O,prs⟩=⟨els,O,prs⟩:=by
   cases m with
   |zero=>rfl
   |succ m=>unfold clM;simp only[hl,cond_false]
  rw[<-hm,hc];refine gO (tn 5 (kp hi (tn 1 (ke hec (tn 1 (kb hl z)))))) ?_;refine OUT z kx ?_;exact eNs
 | true=>
  cases m with
  |zero=>exact absurd (of_decide_eq_true hl) hk.2
  | succ m=>
   obtain⟨⟨h1,h2,h3⟩,h4⟩:=hk.2 (of_decide_eq_true hl)
   have hop:=ope_to ps els O prs c hi h1 h2 h3;obtain⟨o,ho⟩:∃ o,o=esO ps ⟨els,O,prs⟩ c:=⟨_,rfl⟩
   rw[show opM O (clO ps els c) (el els c.toNat).fbefore=o from ho.symm]at hop;rw[<-ho]at h4
   have hc:clM ps c (m+1) ⟨els,O,prs⟩=cond (decide (o>0)) (clM ps c m (esP ps ⟨els,O,prs⟩ o c)) ⟨els,O,prs⟩:=by
    rw[ho]
    conv=>lhs;unfold clM
    simp only[hl,cond_true]
   cases hd:decide (o>0)with
   |false=>
    rw[hc,hd,cond_false]at hm;rw[<-hm];refine gO (tn 5 (kp hi (tn 1 (ke hec (tn 1 (kb hl (tn 2 (kg hop trivial (tn 7 (kb (b:= !(decide (o>0))) (d:=true) (by rw[hd];rfl) z)))))))))) ?_;refine OUT z kx ?_;exact eNs
   |true=>
    rw[hc,hd,cond_true]at hm;obtain⟨⟨p1,p2,p3⟩,h5⟩:=h4 (of_decide_eq_true hd)
    have hpr:=pai_to ps els O prs o c els.length p1 p2 p3 h3;refine gO (tn 5 (kp hi (tn 1 (ke hec (tn 1 (kb hl (tn 2 (kg hop trivial (tn 7 (kb (b:= !(decide (o>0))) (d:=false) (by rw[hd];rfl) (tn 3 (kg hpr trivial z)))))))))))) ?_;exact AG (m:=n0) ⟨m,_,h5,hm,by omega,rfl,rfl⟩ (WK kx) kx (Zb _)
end Go.Proofs.YthbpjmogdonlkaaGreatDoor
namespace Go.Eng
variable {P:Program}
def isNil:SV->Bool
 | .nil=>true
 |_=>false
def tellS(S:St)(c:Nat):List (Nat×Nat×Nat×Nat)->St
 |[]=>S
 |(k,b,e,sz)::l=>tellS ((Vcr S c k (.vs b 0)).addBox b (.vec e sz [])) c l
def okTell(S:St)(c:Nat):List (Nat×Nat×Nat×Nat)->Bool
 |[]=>true
 |(k,b,e,sz)::l=>isNil (Vfs S c k)&&(decide (b<1000)||decide (2000<=b))&& !S.names b&&okTell ((Vcr S c k (.vs b 0)).addBox b (.vec e sz [])) c l
theorem Vkr:∀(l:List (Nat×Nat×Nat×Nat))(S:St)(c:Nat),okTell S c l=true->Ghost S (tellS S c l)
 |[],S,c,_=>λG w a hr=>⟨G,Step.refl G w,hr,λ_ _=>rfl⟩
 | (k,b,e,sz)::l,S,c,h=>by
  simp only[okTell,Bool.and_eq_true,Bool.or_eq_true,decide_eq_true_eq,Bool.not_eq_true']at h;obtain⟨⟨⟨h1,h2⟩,h3⟩,h4⟩:=h
  have h5:Vfs S c k=.nil:=by
   cases hc:Vfs S c k with
   |nil=>rfl
   |_=>rw[hc]at h1;cases h1
  exact Ghost.trans (Vks h5 h2 h3) (Vkr l _ c h4)
theorem TELLS{α:Type}{K:α->Exit->St->Prop}{M:α}{X:Cf}(c:Nat)(l:List (Nat×Nat×Nat×Nat))(h:okTell (stOf X) c l=true)(hn:Nx P K M (reSt X (tellS (stOf X) c l))):Nx P K M X:=Voc (Vkr l _ c h) hn
end Go.Eng
namespace Go.Proofs.YthbpjmogdonlkaaGreatDoor
open Go Go.Eng
def stM(ps:List DPiece)(n:Nat)(els:List DEm)(O:Ops)(C:Nat->List AV)(prs:List AV):List (Nat×ABox):=[(14,.cells 227 ([jL (ps.map Vb4),.vs 12 n]++((Zz 18).map (λi=>.vs (2010+i) (O i).length)++[.vs 2002 prs.length]))),(12,emB els),(2002,.vec 201 3 prs)]++(Zz 18).map (λi=>(2010+i,.vec 3 1 (C i)))
def opV(O:Ops):Nat->List AV:=λi=>(O i).map vI
def esM(ps:List DPiece)(s:ES):List (Nat×ABox):=stM ps s.els.length s.els s.O (opV s.O) s.prs
theorem insL_to(ps:List DPiece)(s:ES)(e:DEm)(hn:s.els.length<=274877906944)(h0:0<s.els.length)(hb:Ix s.els (bf s.els 0)):
  Va2 Tryz.prog 199 [.ptr 14 0,.av (cEm e),jI 0] (esM ps s) [] (jI ((s.els.length:Nat):Int)) (esM ps ⟨insM s.els e 0,s.O,s.prs⟩) []:=
 Vcq kx (Vaa (Vaf (14,0) (1000,0) rfl) (Vaa (Vaf (12,0) (2001,0) rfl) (ins_to ps s.els s.O s.prs e 0 hn ⟨Int.le_refl _,by omega⟩ hb)))
theorem cloL_to(ps:List DPiece)(c:Int)(n:Nat)(s:ES)(h:ClOk ps c n s):Va2 Tryz.prog 200 [.ptr 14 0,jI c] (esM ps s) [] Vas (esM ps (clM ps c n s)) []:=
 Vcq kx (Vaa (Vaf (14,0) (1000,0) rfl) (Vaa (Vaf (12,0) (2001,0) rfl) (clo_to ps c n s h)))
theorem oplL_to(ps:List DPiece)(s:ES)(p:DPiece)(hN:0<=p.fN):Va2 Tryz.prog 201 [.ptr 14 0,.av (Vbo p)] (esM ps s) [] (.ptr 14 (2+opI p)) (esM ps s) []:=
 Vcq kx (Vaa (Vaf (14,0) (1000,0) rfl) (Vaa (Vaf (12,0) (2001,0) rfl) (opl_to ps s.els s.O s.prs p hN)))
def mtX(ps:List DPiece)(s:ES)(sl:List (Nat×SV)):St:=sx 83 ([(3,.ptr 14 0)]++sl) (esM ps s) []
def mtZ(ps:List DPiece)(v:Nat)(c:Int)(sl:List (Nat×SV)):List (Nat×SV):=[(6,jI c),(15,jL (ps.map Vb4)),(16,jI ((lenM Vb4 ps:Nat):Int)),(17,jI ((v:Nat):Int))]++sl
def addO(s:ES)(i:Nat)(c:Int):ES:=⟨s.els,updO s.O i (s.O i++[c]),s.prs⟩
theorem addO_V(O:Ops)(i:Nat)(c:Int):(λj=>cond (Nat.beq j i) (((O i).map vI).take (O i).length++[vI c]) ((O j).map vI))=opV (updO O i (O i++[c])):=by
 funext j;unfold opV updO;cases Nat.beq j i with
 |true=>
  simp only[cond_true];rw[List.map_append,List.take_of_length_le ku];rfl
 |false=>rfl
theorem addO_L(O:Ops)(i:Nat)(c:Int):(λj=>SV.vs (2010+j) (updO O i (O i++[c]) j).length)=(λj=>SV.vs (2010+j) (cond (Nat.beq j i) ((O i).length+1) (O j).length)):=by
 funext j;unfold updO;cases Nat.beq j i with
 |true=>simp
 |false=>rfl
theorem mt11(ps:List DPiece)(s:ES)(v i:Nat)(c:Int)(hI:I18 i)(hn:(s.O i).length<=1073741824):W Tryz.prog (.region 11 (Va7 11 Tryz.f147) false) (λe S1=>e=.normal/\Weak S1 (mtX ps (addO s i c) (mtZ ps v c []))) (mtX ps s (mtZ ps v c [(7,.ptr 14 (2+i))])):=by
 obtain⟨els,O,prs⟩:=s
 have hn:(O i).length<=1073741824:=hn
 have hu:Uni 1 [vI c]:=by
  intro y hy;simp only[Za,Zc,or_false]at hy;subst hy;exact⟨rfl,rfl⟩
 have hap:(O i).length<=((O i).map vI).length/\Uni 1 [vI c]/\((O i).length+([vI c]:List AV).length)*8<=140737488355328:=⟨by simp,hu,by simp;omega⟩
 have hw:∀ S1,Weak S1 (sx 83 ([(3,.ptr 14 0)]++mtZ ps v c []) ([(14,.cells 227 ([jL (ps.map Vb4),.vs 12 els.length]++((Zz 18).map (λj=>.vs (2010+j) (cond (Nat.beq j i) ((O i).length+1) (O j).length))++[.vs 2002 prs.length]))),(12,emB els),(2002,.vec 201 3 prs)]++(Zz 18).map (λj=>(2010+j,.vec 3 1 (cond (Nat.beq j i) (((O i).map vI).take (O i).length++[vI c]) ((O j).map vI))))) [])->Weak S1 (mtX ps (addO ⟨els,O,prs⟩ i c) (mtZ ps v c [])):=by
  intro S1 h;unfold mtX esM addO stM;rw[<-addO_V,addO_L];exact h
 refine WN ?_;refine GO (tn 5 (kp hu (kp hap (tn 2 z)))) (by rcases hI with rfl|rfl|rfl|rfl|rfl|rfl|rfl|rfl|rfl|rfl|rfl|rfl|rfl|rfl|rfl|rfl|rfl|rfl <;>kernel_rfl) ?_;exact LEAF .normal (by rcases hI with rfl|rfl|rfl|rfl|rfl|rfl|rfl|rfl|rfl|rfl|rfl|rfl|rfl|rfl|rfl|rfl|rfl|rfl <;>kernel_rfl) (WK (by rcases hI with rfl|rfl|rfl|rfl|rfl|rfl|rfl|rfl|rfl|rfl|rfl|rfl|rfl|rfl|rfl|rfl|rfl|rfl <;>kernel_rfl)) ⟨rfl,hw _ (λ_ _ _ h=>h)⟩
end Go.Proofs.YthbpjmogdonlkaaGreatDoor
namespace Go.Eng
variable {P:Program}
def nil21:Value:=.agg #[.slice none 0 0,.slice none 0 0,.slice none 0 0,.slice none 0 0,.slice none 0 0,.slice none 0 0,.slice none 0 0,.slice none 0 0,.slice none 0 0,.slice none 0 0,.slice none 0 0,.slice none 0 0,.slice none 0 0,.slice none 0 0,.slice none 0 0,.slice none 0 0,.slice none 0 0,.slice none 0 0,.slice none 0 0,.slice none 0 0,.slice none 0 0]
theorem WO_st21{ops:Array Oper}{o1 o2:Oper}{rest:List Oper}{Q:St->Prop}{S:St}{t m1 m2 d1 d2 bt b2 n2:Nat}{l1:List AV}{pl:List (Nat×Nat)}
  (ho1:o1.op=.build t #[(0,.tmp m1),(1,.tmp m2)]) (hd1:o1.dst=some d1) (hg1:o1.guard=none) (ho2:o2.op=.box t (.tmp d1)) (hd2:o2.dst=some d2) (hg2:o2.guard=none)
  (hi:Vak P t=some (21,bt,some nil21)) (hpl:Vf9 P t=some pl) (hp0:pl[0]? =some (0,1)) (hp1:pl[1]? =some (1,1)) (hm1:S.fr[m1]? =some (.av (.sl l1))) (hm2:S.fr[m2]? =some (.vs b2 n2)) (hl1:d1<S.fr.length) (hid:d2<1000) (hn:(S.put (some d1) .junk).names d2=false)
  (hb2:b2≠d2)
  (h:WO P ops rest Q (((S.put (some d1) .junk).addBox d2 (.cells t ([.av (.sl l1),.vs b2 n2]++List.replicate 19 .nil))).put (some d2) (.ptr d2 0))):WO P ops (o1::o2::rest) Q S:=by
 intro more Q' G w a hr hq
 have hsz:a.tmps.size=S.fr.length:=hr.size.symm
 have r1:=hr.fr m1 _ hm1
 have r2:=hr.fr m2 _ hm2;obtain⟨u1,eu1⟩:∃ u,a.eval (.tmp m1)=u:=⟨_,rfl⟩
 obtain⟨u2,eu2⟩:∃ u,a.eval (.tmp m2)=u:=⟨_,rfl⟩
 have r1':RepS G w (.av (.sl l1)) u1:=by rw[<-eu1];exact r1
 have r2':RepS G w (.vs b2 n2) u2:=by rw[<-eu2];exact r2
 obtain⟨a1,c1,es1,z1,rfl,_⟩:=id r1'
 have hv2:∃ ad k c,u2=.slice ad k c:=by
  rcases r2' with⟨_,h,_⟩|⟨blk,_,_,h,_⟩
  ·exact⟨_,_,_,h⟩
  ·exact⟨_,_,_,h⟩
 obtain⟨a2,k2,c2,rfl⟩:=hv2;obtain⟨arr,harr⟩:∃ arr:Array Value,arr=#[.slice a1 l1.length c1,.slice a2 k2 c2]++Array.replicate 19 (.slice none 0 0):=⟨_,rfl⟩
 have hf:Instr.fill (λi=>pl[i]?) nil21.cells [(0,.slice a1 l1.length c1),(1,.slice a2 k2 c2)]=some arr:=by
  rw[harr]
  have h0:Instr.fill (λi=>([(0,1),(1,1)]:List (Nat×Nat))[i]?) nil21.cells [(0,.slice a1 l1.length c1),(1,.slice a2 k2 c2)]=some (#[.slice a1 l1.length c1,.slice a2 k2 c2]++Array.replicate 19 (.slice none 0 0)):=by kernel_rfl
  refine Vhe (p2:=λi=>pl[i]?) (λi q hq=>?_) _ _ _ h0
  match i,hq with
  |0,hq=>rw[hp0];exact hq
  |1,hq=>rw[hp1];exact hq
  |i+2,hq=>simp at hq
 have x1:(execOp a.eval o1).run P w=.ok (.value (.agg arr)) w:=by
  unfold Vf9 at hpl
  split at hpl
  ·rename_i fs hu
   have hmm:=run_places w fs.toList _ hpl
   have hm2:(fs.mapM (λf=>do pure (f.offset, <-sizeOf f.type)):Sem (Array (Nat×Nat))).run P w=.ok pl.toArray w:=by
    rw[Array.mapM_eq_mapM_toList];simp only[Sem.run_map,hmm,Result.andThen_ok]
   simp only[bind_pure_comp]at hm2;simp[execOp,ho1,Instr.build,Vam hi,Va0 hu,hm2,eu1,eu2,hf]
  ·simp at hpl
 simp only[Zg,wpList];rw[if_pos (Vao hg1 a)];refine .inl ?_;unfold Oper.wp;rw[x1,Oper.upon_value,hd1]
 have hr1:Rel G w (S.put (some d1) .junk) (a.put (some d1) (.agg arr)):=hr.put (some d1) trivial
 have ed1:(a.put (some d1) (.agg arr)).eval (.tmp d1)=.agg arr:=Nb_same kv;generalize a.put (some d1) (.agg arr)=a9 at hr1 ed1 ⊢;rw[if_pos (Vao hg2 _)];refine .inl ?_
 try unfold Oper.wp
 have hnil:∀ n,RepSs G w (List.replicate n .nil) (List.replicate n (.slice none 0 0)):=by
  intro n
  induction n with
  |zero=>rfl
  |succ n ih=>exact⟨_,_,rfl,rfl,ih⟩
 have hs:RepSs G w ([.av (.sl l1),.vs b2 n2]++List.replicate 19 .nil) arr.toList:=by
  rw[harr]
  show RepSs G w (.av (.sl l1):: .vs b2 n2::List.replicate 19 .nil) (.slice a1 l1.length c1:: .slice a2 k2 c2::List.replicate 19 (.slice none 0 0));exact⟨_,_,rfl,r1',_,_,rfl,r2',hnil 19⟩
 obtain⟨e1,e2,e3⟩:=hr1.newBox hn t hs (by
  intro s hs;simp only[Zg,Zp,Za]at hs;rcases hs with rfl|rfl|hs
  ·rfl
  ·simp[SV.names,hb2]
  ·rw[List.eq_of_mem_replicate hs];rfl) (by
  intro x hx;rw[harr]at hx;simp only[Array.toList_append,Zg,Zp,Za,Array.toList_replicate]at hx;rcases hx with rfl|rfl|hx
  ·rfl
  ·rfl
  ·rw[List.eq_of_mem_replicate hx];rfl)
 have x2:(execOp a9.eval o2).run P w=.ok (.value (.pointer (some ⟨w.heap.size,0,none⟩))) (w.alloc (.cells arr.toList.toArray t)):=by
  simp[execOp,ho2,ed1,Instr.box,newVar,newRow,Value.cells]
 rw[x2,Oper.upon_value,hd2]
 have hr2:=e2.put (some d2) e3;exact h more Q' _ _ _ hr2 (λS' G2 a2 w4 p1 p2 p3 p4=>hq S' G2 a2 w4 p1 (e1.trans p2) p3 (λi hi'=>(p4 i hi').trans (by simp only[Gh.bind];rw[if_neg (by intro h;simp only[Prod.mk.injEq]at h;omega)])))
end Go.Eng
namespace Go.Proofs.YthbpjmogdonlkaaGreatDoor
open Go Go.Eng
def em0:DEm:=default
def emZ:Value:=.agg #[.int .i64 0,.string ⟨#[]⟩,.string ⟨#[]⟩,.string ⟨#[]⟩,.string ⟨#[]⟩,.slice none 0 0,.slice none 0 0,.slice none 0 0,.slice none 0 0,.slice none 0 0,.bool false,.int .i64 0,.int .i64 0,.int .i64 0,.int .i64 0]
theorem emZ_rep(U:Nat->Nat)(w:World):Rep U w (aEm em0) emZ:=by
 rw[aEm_eq]
 have hn:Rep U w (.sl []) (.slice none 0 0):=⟨none,0,[],0,rfl,rfl,by simp,by simp,by simp,by simp,.inl rfl⟩
 refine⟨_,rfl,?_,?_⟩
 ·exact⟨_,_,rfl,⟨rfl,rfl⟩,_,_,rfl,⟨rfl,rfl⟩,_,_,rfl,⟨rfl,rfl⟩,_,_,rfl,⟨rfl,rfl⟩,_,_,rfl,⟨rfl,rfl⟩,_,_,rfl,hn,_,_,rfl,hn,_,_,rfl,hn,_,_,rfl,hn,_,_,rfl,hn,_,_,rfl,⟨rfl,rfl⟩,_,_,rfl,⟨rfl,rfl⟩,_,_,rfl,⟨rfl,rfl⟩,_,_,rfl,⟨rfl,rfl⟩,_,_,rfl,⟨rfl,rfl⟩,rfl⟩
 ·intro x hx;simp only[Za,Zc,or_false]at hx;rcases hx with rfl|rfl|rfl|rfl|rfl|rfl|rfl|rfl|rfl|rfl|rfl|rfl|rfl|rfl|rfl <;>rfl
theorem em_box(n:Nat)(h1:1<=n)(id:Nat)(G:Gh)(w:World)(blk:Nat)(hb:blk<w.heap.size)(ho:G.ow (id,0)=some blk)(hw:w.heap[blk]? =some (.cells (madeCells emZ.cells (n*15)) 230 (0,0)))(hU:G.U blk=0)(hc:G.cp blk=n):RepB G w id (.vec 230 15 [aEm em0]):=by
 obtain⟨rest,hr⟩:=made_head emZ.cells n h1;refine .inr ⟨blk,_,[emZ],hb,ho,hw,hU,?_,⟨_,_,rfl,emZ_rep _ _,rfl⟩,?_,⟨rest,?_⟩,?_⟩
 ·rw[hc,size_madeCells];exact Nat.le_refl _
 ·intro x hx;simp only[Za,Zc,or_false]at hx;subst hx;rfl
 ·have:(madeCells emZ.cells (n*15)).toList=emZ.cells.toList++rest:=hr;rw[this];rfl
 ·intro c hc
  have hc2:c∈emZ.cells.toList:=by simpa[Va1]using hc
  simp only[emZ,Value.cells,Za,Zc,or_false]at hc2;rcases hc2 with rfl|rfl|rfl|rfl|rfl|rfl|rfl|rfl|rfl|rfl|rfl|rfl|rfl|rfl|rfl <;>rfl
def mtS0(ps:List DPiece):St:=sx 83 [(0,jL (ps.map Vb4)),(3,.ptr 14 0)] [(14,.cells 227 ([jL (ps.map Vb4),.vs 12 1]++List.replicate 19 .nil)),(12,.vec 230 15 [aEm em0])] []
theorem mt1(ps:List DPiece)(hn:ps.length<=1073741824):W Tryz.prog (.region 1 (Va7 1 Tryz.f147) false) (λe S1=>e=.normal/\Weak S1 (mtS0 ps)) (sx 83 [(0,jL (ps.map Vb4))] [] []):=by
 have hw:IntKind.i64.wrap ((((ps.map Vb4).length:Nat):Int)+1)=((ps.length+1:Nat):Int):=wrE _ _ (by simp;omega);refine Van ?_;rw[show(Va7 1 Tryz.f147).toList=[regO 1 Tryz.f147 0,regO 1 Tryz.f147 1,regO 1 Tryz.f147 2,regO 1 Tryz.f147 3,regO 1 Tryz.f147 4,regO 1 Tryz.f147 5,regO 1 Tryz.f147 6,regO 1 Tryz.f147 7] by kernel_rfl];refine Var (jL (ps.map Vb4)) 8 kx kx ?_;refine Var (jL (ps.map Vb4)) 9 kx kx ?_;refine Var (jI (((ps.map Vb4).length:Nat):Int)) 10 kx kx ?_;refine Var (jI (IntKind.i64.wrap ((((ps.map Vb4).length:Nat):Int)+1))) 11 kx kx ?_;rw[hw];refine Vc5 (.vs 12 1) 12 kx (Vh0 (x:=.const (.int .i64 1)) (y:=.tmp 11) (t:=222) (e:=230) (sz:=15) (bt:=232) (z:=emZ) (m:=1) (n:=ps.length+1) (id:=12) (k:=.i64) (k':=.i64) (X:=.vec 230 15 [aEm em0]) kx kx kx kv kx kx kv kv gj kx (λG w blk h1 h2 h3 h4 h5=>em_box (ps.length+1) kv 12 G w blk h1 h2 h3 h4 h5)) ?_;refine WO_st21 (t:=227) (m1:=8) (m2:=12) (d1:=13) (d2:=14) (bt:=504) (b2:=12) (n2:=1) (l1:=ps.map Vb4) (pl:=[(0,1),(1,1),(2,18),(20,1)]) kx kx kx kx kx kx kx kx rfl rfl kx kx (Nat.lt_of_lt_of_eq (by decide:13<83) kx) gj kx gj ?_;refine Var (.ptr 14 0) 3 kx kx ?_;exact Vbk rfl ⟨rfl,WK kx⟩
def zIn:DInline:=DInline.mk 0 ⟨#[]⟩ ⟨#[]⟩ ⟨#[]⟩ ⟨⟨#[]⟩,[],[]⟩ [] [] []
def rnEm(i n:Int):DEm:=DEm.mk zIn true i n 0 0
def insS(s:ES)(e:DEm):ES:=⟨insM s.els e 0,s.O,s.prs⟩
def lenS(s:ES):Int:=((s.els.length:Nat):Int)
def mtA(ps:List DPiece)(v:Nat)(p:DPiece)(s:ES):ES:=cond p.fClose (clM ps (lenS s) p.fN.toNat (insS s (rnEm v p.fN))) (insS s (rnEm v p.fN))
def mtO(p:DPiece)(s:ES)(c:Int):Bool:=cond p.fOpen (decide (lf s.els c>0)) false
def Vkm(p:DPiece):Bool:=cond ((p.fKind:Int)==0) (cond ((p.fInline.fKind:Int) !=1) true (!eqs p.fInline.fText ⟨#[]⟩)) false
def mtS(ps:List DPiece)(v:Nat)(p:DPiece)(s:ES):ES:=cond (isrP p) (cond (mtO p (mtA ps v p s) (lenS s)) (addO (mtA ps v p s) (opI p) (lenS s)) (mtA ps v p s)) (cond (Vkm p) (insS s (mkE p.fInline)) s)
def mtI:ES:=⟨[em0],λ_=>[],[]⟩
def mtR(ps:List DPiece):Nat->ES
 |0=>mtI
 |v+1=>mtS ps v (el ps v) (mtR ps v)
structure MtOk (ps:List DPiece) (v:Nat) (p:DPiece) (s:ES):Prop where
 len:s.els.length<=274877906944
 pos:0<s.els.length
 bef:Ix s.els (bf s.els 0)
 clo:isrP p=true->p.fClose=true->ClOk ps (lenS s) p.fN.toNat (insS s (rnEm v p.fN))
 idx:isrP p=true->Ix (mtA ps v p s).els (lenS s)
 num:isrP p=true->0<=p.fN
 ops:isrP p=true->(((mtA ps v p s).O (opI p)).length<=1073741824/\I18 (opI p))
theorem mtc_to(ps:List DPiece)(hn:ps.length<=1073741824)(hk:∀ v,v<ps.length->MtOk ps v (el ps v) (mtR ps v)):Vlj Tryz.prog 147 [jL (ps.map Vb4)] (esM ps (mtR ps ps.length)) (.ptr 14 0):=by
 have hlq:=Va6 Vb4 ps;refine BEGn Tryz.func147 kx ?_;refine gO (tn 1 (kq 1 z)) ?_;refine NXW (mtS0 ps) (kq 2 z) kx ?_ kx ?_
 ·refine Vai (S':=sx 83 [(0,jL (ps.map Vb4))] [] []) (WK kx) ?_;exact Val (c':=.region 1 (Va7 1 Tryz.f147) false) kx (mt1 ps kv)
 refine TELLS 14 ((Zz 18).map (λi=>(2+i,2010+i,3,1))++[(20,2002,201,3)]) kx ?_;refine gO (tn 3 z) ?_;refine LP (n:=ps.length+1) (λN M S=>∃(v:Nat)(s:ES)(c:Int),v<=ps.length/\s=mtR ps v/\ps.length-v<N/\M=()/\S=mtX ps s [(15,jL (ps.map Vb4)),(16,jI ((lenM Vb4 ps:Nat):Int)),(17,jI ((v:Nat):Int))]) kx ⟨0,mtI,0,by omega,rfl,by omega,rfl,rfl⟩ (WK kx) ?_;rintro n0 M S ⟨v,s,c,hv,hs,hF0,rfl,rfl⟩;obtain⟨n0,rfl⟩:∃ k,n0=k+1:=⟨n0-1,by omega⟩
 by_cases h1:v<ps.length
 ·have hd:decide (((v:Nat):Int)<((lenM Vb4 ps:Nat):Int))=true:=dT kv
  have hep:=el_aPiece ps v h1
  have hO:=hk v h1;rw[<-hs]at hO
  have hi:=isrP_to (el ps v)
  have hs2:mtR ps (v+1)=mtS ps v (el ps v) s:=by rw[hs];rfl
  have hwr:IntKind.i64.wrap (((v:Nat):Int)+1)=((v+1:Nat):Int):=wrE _ _ kv;generalize el ps v=p at hep hO hi hs2;cases hr:isrP p with
  | false=>
   cases hkp:Vkm p with
   |true=>
    have hins:=insL_to ps s (mkE p.fInline) hO.len hO.pos hO.bef
    have e:mtR ps (v+1)=insS s (mkE p.fInline):=by rw[hs2,mtS,hr,hkp];rfl
    refine gO (tn 1 (kb hd (tn 1 (ke hep (tn 5 (kc hi (tn 1 (kb hr (tn 4 (kj ((p.fKind:Int)==0) (tn 5 (kj ((p.fInline.fKind:Int) !=1) z (tn 4 z) z)) z (tn 1 (kb hkp (tn 4 (kg hins trivial (kn hwr (tn 1 z)))))))))))))))) ?_;exact AG (m:=n0) ⟨v+1,insS s (mkE p.fInline),0,by omega,e.symm,by omega,rfl,rfl⟩ (WK kx) kx (Zb _)
   |false=>
    have e:mtR ps (v+1)=s:=by rw[hs2,mtS,hr,hkp];rfl
    refine gO (tn 1 (kb hd (tn 1 (ke hep (tn 5 (kc hi (tn 1 (kb hr (tn 4 (kj ((p.fKind:Int)==0) (tn 5 (kj ((p.fInline.fKind:Int) !=1) z (tn 4 z) z)) z (tn 1 (kb hkp (kn hwr (tn 1 z)))))))))))))) ?_;exact AG (m:=n0) ⟨v+1,s,0,by omega,e.symm,by omega,rfl,rfl⟩ (WK kx) kx (Zb _)
  | true=>
   have hins:=insL_to ps s (rnEm v p.fN) hO.len hO.pos hO.bef;obtain⟨s1,hs1⟩:∃ t,t=insS s (rnEm v p.fN):=⟨_,rfl⟩
   rw[show(⟨insM s.els (rnEm v p.fN) 0,s.O,s.prs⟩:ES)=s1 from hs1.symm]at hins
   have hclo:=hO.clo hr
   have hidx:=hO.idx hr;obtain⟨hops,hI⟩:=hO.ops hr
   have hnum:=hO.num hr;obtain⟨c,hc⟩:∃ c,c=lenS s:=⟨_,rfl⟩
   rw[show((s.els.length:Nat):Int)=c from hc.symm]at hins;rw[<-hc]at hclo hidx;rw[<-hs1]at hclo;obtain⟨s2,hs2'⟩:∃ t,t=mtA ps v p s:=⟨_,rfl⟩
   rw[<-hs2']at hidx hops
   have he2:mtR ps (v+1)=cond (mtO p s2 c) (addO s2 (opI p) c) s2:=by rw[hs2,mtS,hr,cond_true, <-hs2', <-hc]
   unfold mtA at hs2';rw[<-hs1, <-hc]at hs2'
   have hel:=Vcc s2.els c hidx.1 hidx.2
   have hopl:=oplL_to ps s2 p hnum;cases hcl:p.fClose
   case' true=>
    have hclo:=cloL_to ps c p.fN.toNat s1 (hclo hcl);rw[hcl,cond_true]at hs2';rw[<-hs2']at hclo;refine gO (tn 1 (kb hd (tn 1 (ke hep (tn 5 (kc hi (tn 1 (kb hr (tn 5 (kg hins trivial (tn 3 (kb hcl (tn 2 (kg hclo trivial (kq 9 z))))))))))))))) ?_
   case' false=>
    rw[hcl,cond_false]at hs2';subst hs2';refine gO (tn 1 (kb hd (tn 1 (ke hep (tn 5 (kc hi (tn 1 (kb hr (tn 5 (kg hins trivial (tn 3 (kb hcl (kq 9 z))))))))))))) ?_
   all_goals
    cases ho:mtO p s2 c with
    |true=>
     rw[ho,cond_true]at he2;refine gO (tn 3 (kj p.fOpen (tn 5 (hp (λ_=>hidx) (tn 1 (he (λ_=>hel) (tn 1 z))))) z (kb ho (tn 2 (kg hopl trivial (kq 11 (tn 1 z))))))) ?_;refine NXW (mtX ps (addO s2 (opI p) c) (mtZ ps v c [])) (kn hwr (tn 1 z)) kx ?_ kx ?_
     ·refine Vai (S':=mtX ps s2 (mtZ ps v c [(7,.ptr 14 (2+opI p))])) (WK kx) ?_;exact Val (c':=.region 11 (Va7 11 Tryz.f147) false) kx (mt11 ps s2 v (opI p) c hI hops)
     exact AG (m:=n0) ⟨v+1,addO s2 (opI p) c,0,by omega,he2.symm,by omega,rfl,rfl⟩ (WK kx) kx (Zb _)
    |false=>
     rw[ho,cond_false]at he2;refine gO (tn 3 (kj p.fOpen (tn 5 (hp (λ_=>hidx) (tn 1 (he (λ_=>hel) (tn 1 z))))) z (kb ho (kn hwr (tn 1 z))))) ?_;exact AG (m:=n0) ⟨v+1,s2,0,by omega,he2.symm,by omega,rfl,rfl⟩ (WK kx) kx (Zb _)
 ·have hd:decide (((v:Nat):Int)<((lenM Vb4 ps:Nat):Int))=false:=dF kv
  have hvn:v=ps.length:=by omega
  subst hvn;rw[<-hs];refine gO (tn 1 (kb hd z)) ?_;refine OUT (tn 2 z) kx ?_;exact eNs
end Go.Proofs.YthbpjmogdonlkaaGreatDoor
namespace Go.Proofs.YthbpjmogdonlkaaGreatDoor
open Go Go.Eng
theorem el_set{α:Type}[Inhabited α]{l:List α}{i j:Nat}{a:α}(h:i<l.length):el (l.set i a) j=if j=i then a else el l j:=by
 unfold el
 by_cases hj:j=i
 ·subst hj;rw[List.getElem?_set_self h,if_pos rfl];rfl
 ·rw[List.getElem?_set_ne (λe=>hj e.symm),if_neg hj]
theorem el_snoc{α:Type}[Inhabited α]{l:List α}{j:Nat}{a:α}:el (l++[a]) j=if j=l.length then a else el l j:=by
 unfold el
 by_cases hj:j=l.length
 ·subst hj;simp
 ·rw[if_neg hj];rcases Nat.lt_or_ge j l.length with h|h
  ·rw[List.getElem?_append_left h]
  ·rw[List.getElem?_eq_none (l:=l) h,List.getElem?_eq_none (by simp;omega)]
def Lk(els:List DEm)(a b:Nat):Prop:=(el els a).fnext=b/\(el els b).fbefore=a
def Vbu(els:List DEm):List Nat->Prop
 |a::b::l=>Lk els a b/\Vbu els (b::l)
 |_=>True
theorem Vd6{els:List DEm}:∀(X:List Nat)(a b:Nat)(Y:List Nat),Vbu els (X++a::b::Y) ↔ Vbu els (X++[a])/\Lk els a b/\Vbu els (b::Y)
 |[],a,b,Y=>by simp[Vbu]
 |[x],a,b,Y=>by simp[Vbu,and_assoc]
 |x::y::X,a,b,Y=>by
  have:=Vd6 (els:=els) (y::X) a b Y;simp only[Zg]at this ⊢;simp only[Vbu];rw[this,and_assoc]
theorem Vds{els:List DEm}:∀(X:List Nat)(a:Nat)(M:List Nat),Vbu els (X++a::M)->Vbu els (X++[a])/\Vbu els (a::M)
 |X,a,[],h=>⟨h,trivial⟩
 |X,a,b::M,h=>by
  obtain⟨h1,h2,h3⟩:=(Vd6 X a b M).1 h;exact⟨h1,h2,h3⟩
theorem Vc2{els els':List DEm}:∀(L:List Nat),Vbu els L->(∀x∈L.dropLast,(el els' x).fnext=(el els x).fnext)->(∀y∈L.tail,(el els' y).fbefore=(el els y).fbefore)->Vbu els' L
 |[],_,_,_=>trivial
 |[_],_,_,_=>trivial
 |a::b::l,h,h1,h2=>by
  obtain⟨⟨l1,l2⟩,l3⟩:=h;refine⟨⟨(h1 a ku).trans l1,(h2 b ku).trans l2⟩,Vc2 (b::l) l3 (λx hx=>h1 x ?_) (λy hy=>h2 y ?_)⟩
  ·rw[Zf ku];exact List.mem_cons_of_mem _ hx
  ·simp only[List.tail_cons,Za]at hy ⊢;exact .inr hy
section
variable {els:List DEm} {a b:Nat}
theorem Vn8(ha:a<els.length)(v:Int)(j:Nat):el (setN els a v) j=if j=a then{el els a with fnext:=v}else el els j:=el_set ha
theorem setP_el(ha:a<els.length)(v:Int)(j:Nat):el (setP els a v) j=if j=a then{el els a with fbefore:=v}else el els j:=el_set ha
theorem Vn9(ha:a<els.length)(v:Int)(j:Nat):el (setL els a v) j=if j=a then{el els a with fleft:=v}else el els j:=el_set ha
def ctM(els:List DEm)(a b:Nat):List DEm:=setP (setN els a b) b a
theorem ctM_len:(ctM els a b).length=els.length:=by simp[ctM,setP,setN,Vc7]
theorem Vl0(ha:a<els.length)(hb:b<els.length)(j:Nat):el (ctM els a b) j={el els j with fnext:=if j=a then(b:Int)else(el els j).fnext,fbefore:=if j=b then(a:Int)else(el els j).fbefore}:=by
 unfold ctM;rw[setP_el (by rw[setN,Vc7];exact hb),Vn8 ha,Vn8 ha]
 by_cases h1:j=b
 ·subst h1
  by_cases h2:j=a
  ·subst h2;simp
  ·simp[h2]
 ·by_cases h2:j=a
  ·subst h2;simp[h1]
  ·simp[h1,h2]
theorem insM_el{e:DEm}{p:Nat}(hb:b<els.length)(hp:p<els.length)(hpb:(el els b).fbefore=p)(j:Nat):el (insM els e b) j=if j=els.length then{e with fbefore:=p,fnext:=b}else{el els j with fnext:=if j=p then(els.length:Int)else(el els j).fnext,fbefore:=if j=b then(els.length:Int)else(el els j).fbefore}:=by
 unfold insM;rw[show((b:Nat):Int).toNat=b from rfl,hpb,show((p:Nat):Int).toNat=p from rfl]
 have l1:(els++[insE els e b]).length=els.length+1:=by simp
 rw[setP_el (by rw[setN,Vc7,l1];omega),Vn8 (by rw[l1];omega),Vn8 (by rw[l1];omega)];simp only[el_snoc,show ¬p=els.length by omega,show ¬b=els.length by omega,if_false]
 have hE:insE els e b={e with fbefore:=(p:Int),fnext:=(b:Int)}:=by unfold insE;rw[show((b:Nat):Int).toNat=b from rfl,hpb]
 rw[hE]
 by_cases h0:j=els.length
 ·subst h0;simp[show ¬els.length=b by omega,show ¬els.length=p by omega]
 ·simp only[h0,if_false]
  by_cases h1:j=b
  ·subst h1
   by_cases h2:j=p
   ·subst h2;simp
   ·simp[h2]
  ·by_cases h2:j=p
   ·subst h2;simp[h1]
   ·simp[h1,h2]
end
theorem Ve0{X:List Nat}{b:Nat}{Y:List Nat}:(X++b::Y).dropLast=X++(b::Y).dropLast:=List.dropLast_append_of_ne_nil ku
theorem linked_cut{els:List DEm}{X M Y:List Nat}{a b:Nat}(ha:a<els.length)(hb:b<els.length)(h:Vbu els (X++a::(M++b::Y)))(hs:(X++a::(M++b::Y)).dropLast.Nodup)(ht:(X++a::(M++b::Y)).tail.Nodup):Vbu (ctM els a b) (X++a::b::Y):=by
 obtain⟨h1,h2⟩:=Vds X a (M++b::Y) h
 have h3:Vbu els (b::Y):=by
  have:=Vds (a::M) b Y (by simpa using h2);exact this.2
 rw[Ve0,show a::(M++b::Y)=(a::M)++b::Y from rfl,Ve0,Zd]at hs;obtain⟨_,s2,s3⟩:=hs
 have hsa:a ∉ X:=λhx=>s3 a hx a ku rfl
 have hsb:a ∉ (b::Y).dropLast:=λhx=>by
  rw[Zg,Zi]at s2;exact s2.1 (List.mem_append_right _ hx)
 have ht2:b ∉ (X++[a]).tail/\b ∉ Y:=by
  have e:(X++a::(M++b::Y)).tail=(X++[a]).tail++(M++b::Y):=by cases X <;>simp
  rw[e,Zd]at ht;obtain⟨_,t2,t3⟩:=ht;refine⟨λhx=>t3 b hx b ku rfl,λhx=>?_⟩;rw[Zd,Zi]at t2;exact t2.2.1.1 hx
 refine(Vd6 X a b Y).2 ⟨Vc2 _ h1 (λx hx=>?_) (λy hy=>?_),⟨?_,?_⟩,Vc2 _ h3 (λx hx=>?_) (λy hy=>?_)⟩
 ·rw[Vl0 ha hb]
  have:x≠a:=λe=>hsa (by rw[<-e];simpa using hx)
  simp[this]
 ·rw[Vl0 ha hb]
  have:y≠b:=λe=>ht2.1 (by rw[<-e];exact hy)
  simp[this]
 ·rw[Vl0 ha hb];simp
 ·rw[Vl0 ha hb];simp
 ·rw[Vl0 ha hb]
  have:x≠a:=λe=>hsb (by rw[<-e];exact hx)
  simp[this]
 ·rw[Vl0 ha hb]
  have:y≠b:=λe=>ht2.2 (by rw[<-e];exact hy)
  simp[this]
theorem linked_ins{els:List DEm}{X Y:List Nat}{a b:Nat}{e:DEm}(ha:a<els.length)(hb:b<els.length)(hlt:∀ x∈X++a::b::Y,x<els.length)(h:Vbu els (X++a::b::Y))(hs:(X++a::b::Y).dropLast.Nodup)(ht:(X++a::b::Y).tail.Nodup):Vbu (insM els e b) (X++a::els.length::b::Y):=by
 obtain⟨h1,⟨h2,h2'⟩,h3⟩:=(Vd6 X a b Y).1 h
 have hel:=λj=>insM_el (e:=e) hb ha h2' j
 rw[Ve0,Zd]at hs;obtain⟨_,s2,s3⟩:=hs
 have hsa:a ∉ X:=λhx=>s3 a hx a ku rfl
 have hsb:a ∉ (b::Y).dropLast:=λhx=>by
  rw[Zf ku,Zi]at s2;exact s2.1 hx
 have ht2:b ∉ (X++[a]).tail/\b ∉ Y:=by
  have e:(X++a::b::Y).tail=(X++[a]).tail++b::Y:=by cases X <;>simp
  rw[e,Zd]at ht;obtain⟨_,t2,t3⟩:=ht;exact⟨λhx=>t3 b hx b ku rfl,(Zi.1 t2).1⟩
 have hnk:∀ x∈X++a::b::Y,x≠els.length:=λx hx e=>by have:=hlt x hx;omega
 refine(Vd6 X a els.length (b::Y)).2 ⟨Vc2 _ h1 (λx hx=>?_) (λy hy=>?_),⟨?_,?_⟩,⟨?_,?_⟩,Vc2 _ h3 (λx hx=>?_) (λy hy=>?_)⟩
 ·have hx:x∈X:=by simpa using hx
  have h1:x≠a:=λe=>hsa (by rw[<-e];exact hx)
  rw[hel,if_neg (hnk x (by simp[hx]))];simp[h1]
 ·have h1:y≠b:=λe=>ht2.1 (by rw[<-e];exact hy)
  have hy2:=List.mem_of_mem_tail hy;rw[hel,if_neg (hnk y (by simp only[Ze,Za,Zc,or_false]at hy2 ⊢;rcases hy2 with q|q <;>simp[q]))];simp[h1]
 ·rw[hel,if_neg (hnk a ku)];simp
 ·rw[hel,if_pos rfl]
 ·rw[hel,if_pos rfl]
 ·rw[hel,if_neg (hnk b ku)];simp
 ·have h1:x≠a:=λe=>hsb (by rw[<-e];exact hx)
  have hx2:=List.dropLast_subset _ hx;rw[hel,if_neg (hnk x (by simp only[Ze,Za]at hx2 ⊢;rcases hx2 with q|q <;>simp[q]))];simp[h1]
 ·have h1:y≠b:=λe=>ht2.2 (by rw[<-e];exact hy)
  rw[hel,if_neg (hnk y (by simp only[List.tail_cons]at hy;simp[hy]))];simp[h1]
end Go.Proofs.YthbpjmogdonlkaaGreatDoor
namespace Go.Proofs.YthbpjmogdonlkaaGreatDoor
open Go Go.Eng
structure RingL (els:List DEm) (L:List Nat):Prop where
 lk:Vbu els L
 hs:L.dropLast.Nodup
 ht:L.tail.Nodup
 lt:∀ x∈L,x<els.length
theorem Vpb{X Y:List Nat}{k:Nat}(h:(X++Y).Nodup)(hk:k ∉ X++Y):(X++k::Y).Nodup:=by
 rw[List.perm_middle.nodup_iff,Zi];exact⟨hk,h⟩
theorem Veh{X:List Nat}{a:Nat}{Y:List Nat}:(X++a::Y).tail=(X++[a]).tail++Y:=by cases X <;>simp
theorem RingL.cut{els:List DEm}{X M Y:List Nat}{a b:Nat}(h:RingL els (X++a::(M++b::Y))):RingL (ctM els a b) (X++a::b::Y):=by
 have ha:a<els.length:=h.lt a ku
 have hb:b<els.length:=h.lt b ku;refine⟨linked_cut ha hb h.lk h.hs h.ht,?_,?_,λx hx=>?_⟩
 ·have h1:=h.hs;rw[Ve0,show a::(M++b::Y)=(a::M)++b::Y from rfl,Ve0]at h1;rw[Ve0,Zf ku];refine h1.sublist (List.Sublist.append_left ?_ X);rw[Zg];exact(List.sublist_append_right M _).cons_cons a
 ·have h1:=h.ht;rw[Veh]at h1 ⊢;exact h1.sublist (List.Sublist.append_left (List.sublist_append_right M _) _)
 ·rw[ctM_len];refine h.lt x ?_;simp only[Ze,Za]at hx ⊢;rcases hx with q|q|q|q
  ·exact .inl q
  ·exact .inr (.inl q)
  ·exact .inr (.inr (.inr (.inl q)))
  ·exact .inr (.inr (.inr (.inr q)))
theorem RingL.ins{els:List DEm}{X Y:List Nat}{a b:Nat}(h:RingL els (X++a::b::Y))(e:DEm):RingL (insM els e b) (X++a::els.length::b::Y):=by
 have ha:a<els.length:=h.lt a ku
 have hb:b<els.length:=h.lt b ku
 have hk:els.length ∉ X++a::b::Y:=λhx=>by have:=h.lt _ hx;omega
 refine⟨linked_ins ha hb h.lt h.lk h.hs h.ht,?_,?_,λx hx=>?_⟩
 ·have h1:=h.hs;rw[show X++a::b::Y=(X++[a])++b::Y by simp,Ve0]at h1;rw[show X++a::els.length::b::Y=(X++[a])++els.length::b::Y by simp,Ve0,Zf ku];refine Vpb h1 (λhx=>hk ?_);rcases Ze.1 hx with q|q
  ·simp only[Ze,Za,Zc,or_false]at q;rcases q with q|q <;>simp[q]
  ·have:=List.dropLast_subset _ q;simp only[Za]at this;rcases this with q|q <;>simp[q]
 ·have h1:=h.ht;rw[Veh]at h1 ⊢;refine Vpb h1 (λhx=>hk ?_);rcases Ze.1 hx with q|q
  ·have:=List.mem_of_mem_tail q;simp only[Ze,Za,Zc,or_false]at this;rcases this with q|q <;>simp[q]
  ·simp only[Za]at q;rcases q with q|q <;>simp[q]
 ·rw[Vhb]
  have:x=els.length\/x∈X++a::b::Y:=by
   simp only[Ze,Za]at hx ⊢;rcases hx with q|q|q|q|q <;>simp[q]
  rcases this with rfl|q
  ·omega
  ·have:=h.lt x q;omega
theorem RingL.setL{els:List DEm}{L:List Nat}(h:RingL els L){k:Nat}(hk:k<els.length)(v:Int):RingL (setL els k v) L:=by
 have hel:=λj=>Vn9 hk v j
 refine⟨Vc2 L h.lk (λx _=>?_) (λy _=>?_),h.hs,h.ht,λx hx=>by rw[Go.Proofs.YthbpjmogdonlkaaGreatDoor.setL,Vc7];exact h.lt x hx⟩
 ·rw[hel];split
  ·rename_i e;rw[e]
  ·rfl
 ·rw[hel];split
  ·rename_i e;rw[e]
  ·rfl
def Sm(x y:DEm):Prop:=x.fin=y.fin/\x.frun=y.frun/\x.fpiece=y.fpiece/\x.fleft=y.fleft
theorem Sm.trans{x y w:DEm}(h:Sm x y)(k:Sm y w):Sm x w:=⟨h.1.trans k.1,h.2.1.trans k.2.1,h.2.2.1.trans k.2.2.1,h.2.2.2.trans k.2.2.2⟩
theorem Sm.refl(x:DEm):Sm x x:=⟨rfl,rfl,rfl,rfl⟩
theorem ctM_sm{els:List DEm}{a b:Nat}(ha:a<els.length)(hb:b<els.length)(j:Nat):Sm (el (ctM els a b) j) (el els j):=by rw[Vl0 ha hb];exact⟨rfl,rfl,rfl,rfl⟩
theorem insM_sm{els:List DEm}{e:DEm}{a b:Nat}(ha:a<els.length)(hb:b<els.length)(h:(el els b).fbefore=a){j:Nat}(hj:j≠els.length):Sm (el (insM els e b) j) (el els j):=by rw[insM_el hb ha h,if_neg hj];exact⟨rfl,rfl,rfl,rfl⟩
theorem insM_new{els:List DEm}{e:DEm}{a b:Nat}(ha:a<els.length)(hb:b<els.length)(h:(el els b).fbefore=a):Sm (el (insM els e b) els.length) e:=by rw[insM_el hb ha h,if_pos rfl];exact⟨rfl,rfl,rfl,rfl⟩
theorem RingL.at{els:List DEm}{X Y:List Nat}{a b:Nat}(h:RingL els (X++a::b::Y)):(el els a).fnext=b/\(el els b).fbefore=a:=((Vd6 X a b Y).1 h.lk).2.1
theorem RingL.rem{els:List DEm}{X Y:List Nat}{a k b:Nat}(h:RingL els (X++a::k::b::Y)):remM els k=ctM els a b/\RingL (remM els k) (X++a::b::Y):=by
 have h1:=h.at
 have h2:=RingL.at (X:=X++[a]) (a:=k) (b:=b) (Y:=Y) (by simpa using h)
 have e:remM els k=ctM els a b:=by
  unfold remM ctM;rw[show((k:Nat):Int).toNat=k from rfl,h1.2,h2.1];rfl
 exact⟨e,by rw[e];exact RingL.cut (M:=[k]) h⟩
end Go.Proofs.YthbpjmogdonlkaaGreatDoor
namespace Go.Proofs.YthbpjmogdonlkaaGreatDoor
open Go Go.Eng
theorem Vpd:∀(n:Nat)(L:List Nat),L.Nodup->(∀x∈L,x<n)->L.length<=n
 |0,L,_,h=>by
  cases L with
  |nil=>exact Nat.le_refl _
  |cons a l=>exact absurd (h a ku) kv
 | n+1,L,hn,h=>by
  have h1:=Vpd n (L.erase n) (hn.erase n) (λx hx=>by
   have:=(hn.mem_erase_iff).1 hx
   have:=h x this.2
   omega)
  by_cases hm:n∈L
  ·rw[List.length_erase_of_mem hm]at h1;omega
  ·rw[List.erase_of_not_mem hm]at h1;omega
theorem bt_path{ps:List DPiece}{els:List DEm}:∀(M:List Nat)(a c n:Nat),Vbu els (a::(M++[c]))->c ∉ M->(∀x∈M,x<els.length/\RunOk ps (el els x))->M.length<=n->BtOk ps els c n (el els a).fnext
 |[],a,c,n,hl,_,_,_=>by
  rw[hl.1.1];cases n with
  |zero=>rfl
  |succ n=>exact λh=>absurd rfl h
 |x::M,a,c,n,hl,hc,hx,hn=>by
  rw[hl.1.1];obtain⟨n,rfl⟩:∃ k,n=k+1:=⟨n-1,by simp at hn;omega⟩
  refine λ_=>⟨⟨by omega,by have:=(hx x ku).1;omega⟩,(hx x ku).2,?_⟩
  exact bt_path M x c n hl.2 (λq=>hc (by simp[q])) (λy hy=>hx y (by simp[hy])) (by simp at hn;omega)
theorem bt_map{ps:List DPiece}{els:List DEm}:∀(M:List Nat)(a c n:Nat),Vbu els (a::(M++[c]))->c ∉ M->M.length<=n->btM ps els c n (el els a).fnext=M.map (λx=>runT ps (el els x))
 | [],a,c,n,hl,_,_=>by
  rw[hl.1.1];cases n with
  |zero=>rfl
  |succ n=>
   show cond (((c:Nat):Int) !=((c:Nat):Int)) _ _=_;rw[bne_self_eq_false'];rfl
 | x::M,a,c,n,hl,hc,hn=>by
  rw[hl.1.1];obtain⟨n,rfl⟩:∃ k,n=k+1:=⟨n-1,by simp at hn;omega⟩
  have hx:(((x:Nat):Int) !=((c:Nat):Int))=true:=by
   rw[bne_iff_ne];intro e;exact hc (by rw[show c=x by omega];simp)
  show cond (((x:Nat):Int) !=((c:Nat):Int)) _ _=_;rw[hx,cond_true,List.map_cons];congr 1;exact bt_map M x c n hl.2 (λq=>hc (by simp[q])) (by simp at hn;omega)
structure RunI (ps:List DPiece) (e:DEm):Prop where
 pc:0<=e.fpiece/\e.fpiece<ps.length
 is:isrP (el ps e.fpiece.toNat)=true
 lf:1<=e.fleft/\e.fleft<=262144
theorem Vnu{s t:ByteArray}(h:eqs s t=true):s.size=t.size:=by
 unfold eqs at h
 have:=congrArg List.length (eq_of_beq h);simpa using this
theorem isr_n{p:DPiece}(h:isrP p=true):1<=p.fN/\p.fN<=262144/\p.fChar.size=1:=by
 unfold isrP at h;cases h0:((p.fKind:Int) !=1)with
 |true=>rw[h0]at h;cases h
 | false=>
  rw[h0,cond_false]at h;cases h1:cond (eqs p.fChar (⟨#[42]⟩)) (eqs p.fChar (⟨#[42]⟩)) (eqs p.fChar (⟨#[95]⟩))with
  | true=>
   rw[h1,cond_true]at h
   have hs:p.fChar.size=1:=by
    cases h2:eqs p.fChar (⟨#[42]⟩)with
    |true=>exact Vnu h2
    |false=>rw[h2,cond_false]at h1;exact Vnu h1
   cases h3:decide ((p.fN:Int)>=1)with
   |true=>
    rw[h3,cond_true]at h;exact⟨of_decide_eq_true h3,of_decide_eq_true h,hs⟩
   |false=>rw[h3]at h;cases h
  | false=>
   rw[h1,cond_false]at h;cases h2:eqs p.fChar (⟨#[126]⟩)with
   |true=>
    rw[h2,cond_true]at h
    have:=eq_of_beq h;exact⟨by omega,by omega,Vnu h2⟩
   |false=>rw[h2]at h;cases h
theorem RunI.ok{ps:List DPiece}{e:DEm}(h:e.frun=true->RunI ps e):RunOk ps e:=λhr=>by
 have h1:=h hr
 have h2:=isr_n h1.is;exact⟨h1.pc,by unfold runC;omega,by have:=h1.lf;omega,by have:=h1.lf;omega⟩
section
variable {ps:List DPiece} {els:List DEm} {A M D:List Nat} {o c:Nat}
def LL(A M D:List Nat)(o c:Nat):List Nat:=(0::A)++o::(M++c::(D++[0]))
theorem prN_bd(els:List DEm)(o c:Int):(prN els o c=1\/prN els o c=2)/\(1<=lf els o->prN els o c<=lf els o)/\(1<=lf els c->prN els o c<=lf els c):=by
 unfold prN;cases h1:decide (lf els o>=2)with
 |false=>exact⟨.inl rfl,id,id⟩
 | true=>
  have h1:=of_decide_eq_true h1;cases h2:decide (lf els c>=2)with
  |false=>exact⟨.inl rfl,id,id⟩
  |true=>
   have h2:=of_decide_eq_true h2;exact⟨.inr rfl,λ_=>h1,λ_=>h2⟩
theorem ll_path(h:RingL els (LL A M D o c)):Vbu els (o::(M++[c]))/\c ∉ M/\M.length<=els.length:=by
 obtain⟨_,h1⟩:=Vds (0::A) o (M++c::(D++[0])) h.lk
 have h2:=(Vds (o::M) c (D++[0]) (by simpa using h1)).1
 have h3:=h.ht;unfold LL at h3;rw[Veh,Zd,Zd]at h3;exact⟨by simpa using h2,λhx=>h3.2.1.2.2 c hx c ku rfl,Vpd _ M h3.2.1.1 (λx hx=>h.lt x (by simp[LL,hx]))⟩
theorem Vjc(h:RingL els (LL A M D o c)):RingL (pr2 els o c) ((0::A)++o::c::(D++[0])):=RingL.cut (M:=M) h
theorem pr3_ring(h:RingL els (LL A M D o c))(m:Nat):RingL (pr3 ps els o c m) ((0::A)++o::els.length::c::(D++[0])):=by
 have:=(Vjc h).ins (mkE (prI (prK ps els c (prN els o c)) (btM ps els c m (nx els o))));rw[Vdy]at this;exact this
theorem oc_ne(h:RingL els (LL A M D o c)):o≠c:=by
 have h1:=h.ht;unfold LL at h1;rw[Veh,show M++c::(D++[0])=M++([c]++(D++[0])) by simp]at h1;intro e;subst e;rw[Zd]at h1;exact h1.2.2 o ku o ku rfl
theorem Vpa(h:RingL els (LL A M D o c)):o<els.length/\c<els.length:=⟨h.lt o (by simp[LL]),h.lt c (by simp[LL])⟩
theorem pr3_sm(h:RingL els (LL A M D o c))(m:Nat){j:Nat}(hj:j≠els.length):Sm (el (pr3 ps els o c m) j) (el els j):=by
 have h2:=Vjc h
 have hlt:=Vpa h;refine(insM_sm (els:=pr2 els o c) (a:=o) (b:=c) (by rw[Vdy];exact hlt.1) (by rw[Vdy];exact hlt.2) h2.at.2 (by rw[Vdy];exact hj)).trans ?_;exact ctM_sm hlt.1 hlt.2 j
theorem pr3_new(h:RingL els (LL A M D o c))(m:Nat):Sm (el (pr3 ps els o c m) els.length) (mkE (prI (prK ps els c (prN els o c)) (btM ps els c m (nx els o)))):=by
 have h2:=Vjc h
 have hlt:=Vpa h
 have:=insM_new (els:=pr2 els o c) (a:=o) (b:=c) (e:=mkE (prI (prK ps els c (prN els o c)) (btM ps els c m (nx els o)))) (by rw[Vdy];exact hlt.1) (by rw[Vdy];exact hlt.2) h2.at.2;rw[Vdy]at this;exact this
theorem pr5_el(h:RingL els (LL A M D o c))(m:Nat)(j:Nat):el (pr5 ps els o c m) j={el (pr3 ps els o c m) j with fleft:=if j=o\/j=c then lf els j-prN els o c else(el (pr3 ps els o c m) j).fleft}:=by
 have hlt:=Vpa h
 have hne:=oc_ne h
 have ho3:o<(pr3 ps els o c m).length:=by rw[Vgn];omega
 have hc3:c<(pr3 ps els o c m).length:=by rw[Vgn];omega
 have e4:=λj=>Vn9 (els:=pr3 ps els o c m) ho3 (lf (pr3 ps els o c m) o-prN els o c) j
 have hc4:c<(pr4 (pr3 ps els o c m) o (prN els o c)).length:=by rw[Vi8];exact hc3
 have e5:=Vn9 (els:=pr4 (pr3 ps els o c m) o (prN els o c)) hc4 (lf (pr4 (pr3 ps els o c m) o (prN els o c)) c-prN els o c) j
 have l3:∀ j:Nat,j≠els.length->lf (pr3 ps els o c m) j=lf els j:=λj hj=>(pr3_sm h m hj).2.2.2
 have l4:lf (pr4 (pr3 ps els o c m) o (prN els o c)) c=lf els c:=by
  show(el (setL (pr3 ps els o c m) o _) c).fleft=_;rw[e4,if_neg (λe=>hne e.symm)];exact l3 c kv
 show el (setL (pr4 (pr3 ps els o c m) o (prN els o c)) c _) j=_;rw[e5]
 by_cases h1:j=c
 ·subst h1;rw[if_pos rfl,if_pos (.inr rfl),l4]
  have e6:el (pr4 (pr3 ps els o j m) o (prN els o j)) j=el (pr3 ps els o j m) j:=(e4 j).trans (if_neg (λe=>hne e.symm));rw[e6]
 ·rw[if_neg h1]
  show el (setL (pr3 ps els o c m) o _) j=_;rw[e4]
  by_cases h2:j=o
  ·subst h2;rw[if_pos rfl,if_pos (.inl rfl),l3 j kv]
  ·rw[if_neg h2,if_neg (by rintro(q|q) <;>contradiction)]
end
end Go.Proofs.YthbpjmogdonlkaaGreatDoor
namespace Go.Proofs.YthbpjmogdonlkaaGreatDoor
open Go Go.Eng
theorem last_of(A:List Nat):∃ X q,(0::A)=X++[q]:=⟨(0::A).dropLast,(0::A).getLast ku,(List.dropLast_concat_getLast ku).symm⟩
theorem head_of(D:List Nat):∃ z Y,D++[0]=z::Y:=by cases D with
 |nil=>exact⟨0,[],rfl⟩
 |cons z Y=>exact⟨z,Y++[0],rfl⟩
theorem Voz{els:List DEm}{A Y:List Nat}{k b:Nat}(h:RingL els ((0::A)++k::b::Y)):RingL (remM els k) ((0::A)++b::Y)/\(∀j,Sm (el (remM els k) j) (el els j))/\Ix els (bf els k)/\Ix els (nx els k):=by
 obtain⟨X,q,hX⟩:=last_of A;rw[hX,Zo,Zy]at h;rw[hX,Zo,Zy];obtain⟨h1,h2⟩:=h.rem
 have hq:q<els.length:=h.lt q ku
 have hb:b<els.length:=h.lt b ku;refine⟨h2,λj=>by rw[h1];exact ctM_sm hq hb j,?_,?_⟩
 ·show Ix els (el els k).fbefore;rw[h.at.2];exact⟨by omega,by omega⟩
 ·have:=RingL.at (X:=X++[q]) (a:=k) (b:=b) (Y:=Y) (by simpa using h)
  show Ix els (el els k).fnext;rw[this.1];exact⟨by omega,by omega⟩
section
variable {ps:List DPiece} {els:List DEm} {A M D:List Nat} {o c:Nat}
def A1(els5:List DEm)(A:List Nat)(o:Nat):List Nat:=cond (lf els5 o==0) A (A++[o])
def D1(els6:List DEm)(D:List Nat)(c:Nat):List Nat:=cond (lf els6 c==0) D (c::D)
theorem pr5_ring(h:RingL els (LL A M D o c))(m:Nat):RingL (pr5 ps els o c m) ((0::A)++o::els.length::c::(D++[0])):=by
 have hlt:=Vpa h
 have h3:=pr3_ring (ps:=ps) h m
 have h4:RingL (pr4 (pr3 ps els o c m) o (prN els o c)) ((0::A)++o::els.length::c::(D++[0])):=h3.setL (by rw[Vgn];omega) _;exact h4.setL (by rw[Vi8,Vgn];omega) _
theorem Vnh(h:RingL els (LL A M D o c))(m:Nat):RingL (pr6 ps els o c m) ((0::A1 (pr5 ps els o c m) A o)++els.length::c::(D++[0]))/\∀ j,Sm (el (pr6 ps els o c m) j) (el (pr5 ps els o c m) j):=by
 have h5:=pr5_ring (ps:=ps) h m;unfold pr6 prR A1;cases(lf (pr5 ps els o c m) o==0)with
 |true=>exact⟨(Voz h5).1,(Voz h5).2.1⟩
 |false=>
  refine⟨?_,λj=>Sm.refl _⟩;simp only[cond_false];rw[show(0::(A++[o]))++els.length::c::(D++[0])=(0::A)++o::els.length::c::(D++[0]) by simp];exact h5
theorem Vng(h:RingL els (LL A M D o c))(m:Nat):RingL (pr7 ps els o c m) (0::((A1 (pr5 ps els o c m) A o++els.length::D1 (pr6 ps els o c m) D c)++[0]))/\∀ j,Sm (el (pr7 ps els o c m) j) (el (pr5 ps els o c m) j):=by
 obtain⟨h6,s6⟩:=Vnh (ps:=ps) h m;obtain⟨z,Y,hz⟩:=head_of D;unfold pr7 D1;generalize A1 (pr5 ps els o c m) A o=A' at h6 ⊢;unfold prR;cases(lf (pr6 ps els o c m) c==0)with
 |true=>
  rw[hz,show(0::A')++els.length::c::z::Y=(0::(A'++[els.length]))++c::z::Y by simp]at h6
  have:=Voz h6;refine⟨?_,λj=>(this.2.1 j).trans (s6 j)⟩;simp only[cond_true];rw[show 0::((A'++els.length::D)++[0])=(0::(A'++[els.length]))++(D++[0]) by simp,hz];exact this.1
 |false=>
  refine⟨?_,s6⟩;simp only[cond_false];rw[show 0::((A'++els.length::c::D)++[0])=(0::A')++els.length::c::(D++[0]) by simp];exact h6
theorem pr_ok(h:RingL els (LL A M D o c))(hr:∀ x∈A++o::(M++c::D),(el els x).frun=true->RunI ps (el els x))(ho:(el els o).frun=true)(hc:(el els c).frun=true)(hlen:els.length<=1073741824):PrOk ps els o c els.length:=by
 have hlt:=Vpa h
 have hne:=oc_ne h
 have ro:=(hr o ku ho)
 have rc:=(hr c ku hc)
 have hN:=prN_bd els o c
 have e3o:lf (pr3 ps els o c els.length) o=lf els o:=(pr3_sm h _ kv).2.2.2
 have hl:(el els o).fleft=lf els o:=rfl
 have hl2:(el els c).fleft=lf els c:=rfl
 have lo:=ro.lf;have lc:=rc.lf;rw[hl]at lo;rw[hl2]at lc;refine⟨⟨by omega,by omega⟩,⟨by omega,by omega⟩,rc.pc,?_,hlen,?_,?_,?_,?_,?_⟩
 ·obtain⟨h1,h2,h3⟩:=ll_path h;exact bt_path M o c els.length h1 h2 (λx hx=>⟨h.lt x (by simp[LL,hx]),RunI.ok (hr x (by simp[hx]))⟩) h3
 ·show Ix (pr2 els o c) (el (pr2 els o c) c).fbefore;rw[(Vjc h).at.2];exact⟨by omega,by rw[Vdy];omega⟩
 ·rw[e3o];omega
 ·have:lf (pr4 (pr3 ps els o c els.length) o (prN els o c)) c=lf els c:=by
   have e4:=Vn9 (els:=pr3 ps els o c els.length) (a:=o) (by rw[Vgn];omega) (lf (pr3 ps els o c els.length) o-prN els o c) c;rw[if_neg (λe=>hne e.symm)]at e4
   have e5:el (pr4 (pr3 ps els o c els.length) o (prN els o c)) c=el (pr3 ps els o c els.length) c:=e4
   show(el (pr4 (pr3 ps els o c els.length) o (prN els o c)) c).fleft=_;rw[e5];exact(pr3_sm h _ kv).2.2.2
  rw[this];omega
 ·exact λ_=>(Voz (pr5_ring h _)).2.2
 ·intro _;obtain⟨z,Y,hz⟩:=head_of D
  have h6:=(Vnh (ps:=ps) h els.length).1;rw[hz,show(0::A1 (pr5 ps els o c els.length) A o)++els.length::c::z::Y=(0::(A1 (pr5 ps els o c els.length) A o++[els.length]))++c::z::Y by simp]at h6;exact(Voz h6).2.2
end
end Go.Proofs.YthbpjmogdonlkaaGreatDoor
namespace Go.Proofs.YthbpjmogdonlkaaGreatDoor
open Go Go.Eng
structure PT where
 f:DInline->Nat
 P:DInline->Prop
 ft:∀ t,f (txI t)<=8+t.size
 fk:∀ k l,(k=6\/k=7\/k=8)->f (prI k l)<=9+(l.map f).sum
 pt:∀ t,0<t.size->P (txI t)
 pk:∀ k l,(k=6\/k=7\/k=8)->(∀x∈l,P x)->P (prI k l)
def pot(T:PT)(e:DEm):Nat:=cond e.frun (20*e.fleft.toNat) (T.f e.fin)
def ppP(T:PT)(p:DPiece):Nat:=cond (isrP p) (20*p.fN.toNat) (cond (Vkm p) (T.f p.fInline) 0)
def ppS(T:PT)(ps:List DPiece):Nat->Nat
 |0=>0
 |v+1=>ppS T ps v+ppP T (el ps v)
theorem ppS_mono(T:PT)(ps:List DPiece){v w:Nat}(h:v<=w):ppS T ps v<=ppS T ps w:=by
 induction h with
 |refl=>exact Nat.le_refl _
 |step _ ih=>exact Nat.le_trans ih (Nat.le_add_right _ _)
theorem runT_pot{ps:List DPiece}(T:PT){e:DEm}(h:e.frun=true->RunI ps e):T.f (runT ps e)<=pot T e:=by
 unfold runT pot;cases hr:e.frun with
 |false=>exact Nat.le_refl _
 |true=>
  have h1:=(h hr).lf
  have h2:=T.ft (repB (runC ps e) e.fleft.toNat)
  have h3:=(isr_n (h hr).is).2.2;rw[repB_sz,show(runC ps e).size=1 from h3]at h2;simp only[cond_true];omega
theorem runT_prd{ps:List DPiece}(T:PT){e:DEm}(h:e.frun=true->RunI ps e)(hp:e.frun=false->T.P e.fin):T.P (runT ps e):=by
 unfold runT;cases hr:e.frun with
 |false=>exact hp hr
 |true=>
  have h1:=(h hr).lf
  have h3:=(isr_n (h hr).is).2.2;exact T.pt _ (by rw[repB_sz,show(runC ps e).size=1 from h3];omega)
def smL(g:DEm->Nat)(els:List DEm)(R:List Nat):Nat:=(R.map (λx=>g (el els x))).sum
theorem Vfd(g:DEm->Nat)(els:List DEm)(X Y:List Nat):smL g els (X++Y)=smL g els X+smL g els Y:=by simp[smL]
theorem Vcy(g:DEm->Nat)(els:List DEm)(x:Nat)(Y:List Nat):smL g els (x::Y)=g (el els x)+smL g els Y:=by simp[smL]
theorem Vja{g:DEm->Nat}{els els':List DEm}{X:List Nat}(h:∀ x∈X,g (el els' x)=g (el els x)):smL g els' X=smL g els X:=by
 unfold smL;congr 1;exact List.map_congr_left h
def lfN(e:DEm):Nat:=e.fleft.toNat
def isR(els:List DEm)(x:Nat):Bool:=(el els x).frun
structure EI (T:PT) (ps:List DPiece) (s:ES) (R:List Nat) (v:Nat):Prop where
 ring:RingL s.els (0::(R++[0]))
 run:∀ x∈R,(el s.els x).frun=true->RunI ps (el s.els x)
 srt:(R.filter (isR s.els)).Pairwise (· < ·)
 asc:∀ i,(s.O i).Pairwise (· < ·)
 mem:∀ i,∀x∈s.O i,∃r∈R,x=((r:Nat):Int)/\(el s.els r).frun=true
 sum:s.prs.length+smL lfN s.els R<=262144*v
 len:s.els.length<=1+v+s.prs.length
 wgt:smL (pot T) s.els R<=ppS T ps v
 prd:∀ x∈R,(el s.els x).frun=false->T.P (el s.els x).fin
section
variable {T:PT}
theorem EI.mono{ps:List DPiece}{s:ES}{R:List Nat}{v w:Nat}(h:EI T ps s R v)(hw:v<=w):EI T ps s R w:=⟨h.ring,h.run,h.srt,h.asc,h.mem,Nat.le_trans h.sum (Nat.mul_le_mul_left _ hw),by have:=h.len;omega,Nat.le_trans h.wgt (ppS_mono T ps hw),h.prd⟩
theorem EI.pos{ps:List DPiece}{s:ES}{R:List Nat}{v:Nat}(h:EI T ps s R v):0<s.els.length:=h.ring.lt 0 ku
theorem EI.lt{ps:List DPiece}{s:ES}{R:List Nat}{v:Nat}(h:EI T ps s R v){x:Nat}(hx:x∈R):x<s.els.length:=h.ring.lt x (by simp[hx])
theorem EI.size{ps:List DPiece}{s:ES}{R:List Nat}{v:Nat}(h:EI T ps s R v)(hv:v<=2048):s.els.length<=600000000/\s.prs.length<=600000000:=by
 have h1:=h.sum;have h2:=h.len;omega
theorem asc_len{n:Nat}{l:List Int}(ha:l.Pairwise (· < ·))(hb:∀ x∈l,∃r:Nat,x=((r:Nat):Int)/\r<n):l.length<=n:=by
 have h1:(l.map Int.toNat).length<=n:=by
  refine Vpd n _ ?_ (λy hy=>?_)
  ·rw[List.Nodup,List.pairwise_map];refine List.Pairwise.imp_of_mem (λ{x y} hx hy hxy=>?_) ha;obtain⟨r,rfl,_⟩:=hb x hx;obtain⟨q,rfl,_⟩:=hb y hy;omega
  ·obtain⟨x,hx,rfl⟩:=Zt.1 hy;obtain⟨r,rfl,h⟩:=hb x hx;exact h
 simpa using h1
theorem EI.olen{ps:List DPiece}{s:ES}{R:List Nat}{v:Nat}(h:EI T ps s R v)(i:Nat):(s.O i).length<=s.els.length:=
 asc_len (h.asc i) (λx hx=>by obtain⟨r,h1,h2,_⟩:=h.mem i x hx;exact⟨r,h2,h.lt h1⟩)
end
theorem exN_last(last:Int)(l:List Int):∀ r,0<exN last l r->el l (exN last l r-1)<=last
 |0,h=>absurd h (by simp[exN])
 | r+1,h=>by
  rw[exN_s]at h ⊢;cases hx:decide (el l r>last)with
  |true=>
   rw[hx,cond_true]at h;exact exN_last last l r h
  |false=>
   have:=of_decide_eq_false hx;simp only[cond_false,Nat.add_sub_cancel];omega
theorem exL_mem{last:Int}{l:List Int}(ha:l.Pairwise (· < ·)){x:Int}(hx:x∈exL last l):x∈l/\x<=last:=by
 have hm:x∈l:=List.mem_of_mem_take hx;refine⟨hm,?_⟩;unfold exL at hx;obtain⟨j,hj,rfl⟩:=List.getElem_of_mem hx
 have hj2:j<exN last l l.length/\j<l.length:=by
  have h0:=hj;rw[List.length_take]at h0;exact⟨by omega,by omega⟩
 have hk:0<exN last l l.length:=by omega
 have h1:=exN_last last l l.length hk
 have hle:=exN_le last l l.length
 have hlt:exN last l l.length-1<l.length:=by omega
 rw[show el l (exN last l l.length-1)=l[exN last l l.length-1] by simp[el,hlt]]at h1;rw[List.getElem_take]
 by_cases he:j=exN last l l.length-1
 ·subst he;exact h1
 ·have:=List.pairwise_iff_getElem.1 ha j (exN last l l.length-1) hj2.2 hlt (by have:=hj2.1;omega);omega
theorem opS_mem(bef near:Int):∀ l:List Int,opS bef near l=near\/opS bef near l∈l
 |[]=>.inl rfl
 | x::r=>by
  unfold opS;cases decide (x<=near)with
  |true=>exact .inl rfl
  | false=>
   cases(bef !=x)with
   |true=>exact .inr ku
   |false=>
    rcases opS_mem bef near r with h|h
    ·exact .inl h
    ·exact .inr (List.mem_cons_of_mem _ h)
theorem opF_mem(O:Ops)(cl:DPiece)(bef:Int):∀(n v:Nat)(near:Int),(near=0\/∃ i,near∈O i)->(opF O cl bef n v near=0\/∃ i,opF O cl bef n v near∈O i)
 |0,_,_,h=>h
 | n+1,v,near,h=>by
  refine opF_mem O cl bef n (v+1) _ ?_;unfold opK;cases(cond (opA cl v) (opC cl v) false)with
  |true=>exact h
  |false=>
   rcases opS_mem bef near (O (chrN cl.fChar*6+v)).reverse with q|q
   ·simp only[cond_false];rw[q];exact h
   ·exact .inr ⟨_,by simpa using q⟩
theorem opM_mem{O:Ops}{cl:DPiece}{bef:Int}(h:opM O cl bef>0):∃ i,opM O cl bef∈O i:=by
 rcases opF_mem O cl bef 6 0 0 (.inl rfl)with q|q
 ·have:opM O cl bef=0:=q;omega
 ·exact q
theorem split_oc{els:List DEm}{R:List Nat}{o c:Nat}(hs:(R.filter (isR els)).Pairwise (· < ·))(ho:o∈R)(hc:c∈R)(h:o<c)(ro:isR els o=true)(rc:isR els c=true):∃ A M D,R=A++o::(M++c::D):=by
 obtain⟨A,T,rfl⟩:=List.append_of_mem ho;rcases Ze.1 hc with q|q
 ·rw[Zw,List.filter_cons_of_pos ro,Z0]at hs
  have:=hs.2.2 c (List.mem_filter.2 ⟨q,rc⟩) o ku;omega
 ·rcases Za.1 q with rfl|q
  ·omega
  ·obtain⟨M,D,rfl⟩:=List.append_of_mem q;exact⟨A,M,D,rfl⟩
end Go.Proofs.YthbpjmogdonlkaaGreatDoor
namespace Go.Proofs.YthbpjmogdonlkaaGreatDoor
open Go Go.Eng
section
variable {T:PT} {ps:List DPiece} {s:ES} {A M D:List Nat} {o c v:Nat}
theorem ll_eq(A M D:List Nat)(o c:Nat):0::((A++o::(M++c::D))++[0])=LL A M D o c:=by simp[LL]
theorem pr7_el{els:List DEm}(h:RingL els (LL A M D o c))(m:Nat){j:Nat}(hj:j≠els.length):(el (pr7 ps els o c m) j).frun=(el els j).frun/\(el (pr7 ps els o c m) j).fpiece=(el els j).fpiece/\(el (pr7 ps els o c m) j).fleft=(if j=o\/j=c then lf els j-prN els o c else(el els j).fleft)/\(el (pr7 ps els o c m) j).fin=(el els j).fin:=by
 have h7:=(Vng (ps:=ps) h m).2 j
 have h5:=pr5_el (ps:=ps) h m j
 have h3:=pr3_sm (ps:=ps) h m hj;refine⟨h7.2.1.trans ?_,h7.2.2.1.trans ?_,h7.2.2.2.trans ?_,h7.1.trans ?_⟩
 ·rw[h5];exact h3.2.1
 ·rw[h5];exact h3.2.2.1
 ·rw[h5,h3.2.2.2]
 ·rw[h5];exact h3.1
theorem pr7_new{els:List DEm}(h:RingL els (LL A M D o c))(m:Nat):(el (pr7 ps els o c m) els.length).frun=false/\(el (pr7 ps els o c m) els.length).fleft=0/\(el (pr7 ps els o c m) els.length).fin=prI (prK ps els c (prN els o c)) (btM ps els c m (nx els o)):=by
 have h7:=(Vng (ps:=ps) h m).2 els.length
 have h5:=pr5_el (ps:=ps) h m els.length
 have h3:=pr3_new (ps:=ps) h m
 have hlt:=Vpa h;refine⟨h7.2.1.trans ?_,h7.2.2.2.trans ?_,h7.1.trans ?_⟩
 ·rw[h5];exact h3.2.1
 ·rw[h5]
  show(if els.length=o\/els.length=c then _ else _)=_;rw[if_neg kv];exact h3.2.2.2
 ·rw[h5];exact h3.1
theorem pr_left{els:List DEm}(h:RingL els (LL A M D o c))(m:Nat):lf (pr5 ps els o c m) o=lf els o-prN els o c/\lf (pr6 ps els o c m) c=lf els c-prN els o c:=by
 refine⟨?_,?_⟩
 ·show(el (pr5 ps els o c m) o).fleft=_;rw[pr5_el h]
  show(if o=o\/o=c then _ else _)=_;rw[if_pos (.inl rfl)]
 ·refine((Vnh (ps:=ps) h m).2 c).2.2.2.trans ?_;rw[pr5_el h]
  show(if c=o\/c=c then _ else _)=_;rw[if_pos (.inr rfl)]
theorem A1_mem{els5:List DEm}{x:Nat}(hx:x∈A1 els5 A o):x∈A\/(x=o/\lf els5 o≠0):=by
 unfold A1 at hx;cases hz:(lf els5 o==0)with
 |true=>rw[hz]at hx;exact .inl hx
 |false=>
  rw[hz]at hx;rcases Ze.1 hx with q|q
  ·exact .inl q
  ·exact .inr ⟨by simpa using q,by simpa using hz⟩
theorem D1_mem{els6:List DEm}{x:Nat}(hx:x∈D1 els6 D c):x∈D\/(x=c/\lf els6 c≠0):=by
 unfold D1 at hx;cases hz:(lf els6 c==0)with
 |true=>rw[hz]at hx;exact .inl hx
 |false=>
  rw[hz]at hx;rcases Za.1 hx with q|q
  ·exact .inr ⟨q,by simpa using hz⟩
  ·exact .inl q
def nR(ps:List DPiece)(s:ES)(A D:List Nat)(o c:Nat):List Nat:=A1 (pr5 ps s.els o c s.els.length) A o++s.els.length::D1 (pr6 ps s.els o c s.els.length) D c
theorem prK_k(ps:List DPiece)(els:List DEm)(c n:Int):prK ps els c n=6\/prK ps els c n=7\/prK ps els c n=8:=by
 unfold prK;cases eqs (el ps (pc els c).toNat).fChar ⟨#[126]⟩with
 |true=>exact .inr (.inr rfl)
 |false=>
  cases(n==2)with
  |true=>exact .inr (.inl rfl)
  |false=>exact .inl rfl
def wLf(e:DEm)(v:Int):DEm:={e with fleft:=v}
theorem sum_le{α:Type}{f g:α->Nat}:∀ {l:List α},(∀x∈l,f x<=g x)->(l.map f).sum<=(l.map g).sum
 |[],_=>Nat.le_refl _
 |x::l,h=>by
  have h1:=h x ku
  have h2:=sum_le (f:=f) (g:=g) (l:=l) (λy hy=>h y (by simp[hy]));simp only[List.map_cons,List.sum_cons];omega
theorem nR_sum(hL:RingL s.els (LL A M D o c))(g:DEm->Nat)(hg:∀ x y:DEm,x.frun=y.frun->x.fin=y.fin->x.fleft=y.fleft->g x=g y):
  smL g (pr7 ps s.els o c s.els.length) (nR ps s A D o c)<=smL g s.els A+g (wLf (el s.els o) (lf s.els o-prN s.els o c))+g (el (pr7 ps s.els o c s.els.length) s.els.length)+smL g s.els D+g (wLf (el s.els c) (lf s.els c-prN s.els o c)):=by
 have hlt:=Vpa hL
 have hel:=λ(j:Nat)(hj:j≠s.els.length)=>pr7_el (ps:=ps) hL s.els.length hj
 have hlA:∀ x∈A,x<s.els.length:=λx hx=>hL.lt x (by simp[LL,hx])
 have hlD:∀ x∈D,x<s.els.length:=λx hx=>hL.lt x (by simp[LL,hx])
 have hA:smL g (pr7 ps s.els o c s.els.length) (A1 (pr5 ps s.els o c s.els.length) A o)<=smL g s.els A+g (wLf (el s.els o) (lf s.els o-prN s.els o c)):=by
  have hAs:smL g (pr7 ps s.els o c s.els.length) A=smL g s.els A:=Vja (λx hx=>by
   have h0:=hel x (by have:=hlA x hx;omega)
   have h1:=h0.2.2.1;rw[if_neg]at h1
   ·exact hg _ _ h0.1 h0.2.2.2 h1
   ·rintro(rfl|rfl)
    ·have h3:=hL.hs;unfold LL at h3;rw[Zg,Zf ku,Zi,Ve0,Zd]at h3;exact absurd rfl (h3.2.2.2 x hx x (by rw[Zf ku];simp))
    ·have h3:=hL.ht;unfold LL at h3;rw[Veh,Zd]at h3
     exact absurd rfl (h3.2.2 x (by simp[hx]) x ku))
  unfold A1;cases(lf (pr5 ps s.els o c s.els.length) o==0)with
  |true=>simp only[cond_true];omega
  |false=>
   simp only[cond_false]
   have h0:=hel o kv
   have h1:=h0.2.2.1;rw[if_pos (.inl rfl)]at h1;rw[Vfd,hAs,Vcy,hg (el (pr7 ps s.els o c s.els.length) o) (wLf (el s.els o) (lf s.els o-prN s.els o c)) h0.1 h0.2.2.2 h1];simp[smL]
 have hD:smL g (pr7 ps s.els o c s.els.length) (D1 (pr6 ps s.els o c s.els.length) D c)<=smL g s.els D+g (wLf (el s.els c) (lf s.els c-prN s.els o c)):=by
  have hDs:smL g (pr7 ps s.els o c s.els.length) D=smL g s.els D:=Vja (λx hx=>by
   have h0:=hel x (by have:=hlD x hx;omega)
   have h1:=h0.2.2.1;rw[if_neg]at h1
   ·exact hg _ _ h0.1 h0.2.2.2 h1
   ·have h3:=hL.ht;unfold LL at h3;rw[Veh,Zd]at h3;obtain⟨_,n2,n3⟩:=h3;rintro(rfl|rfl)
    ·exact absurd rfl (n3 x ku x (by simp[hx]))
    ·rw[Zd,Zi]at n2
     exact n2.2.1.1 (by simp[hx]))
  unfold D1;cases(lf (pr6 ps s.els o c s.els.length) c==0)with
  |true=>simp only[cond_true];omega
  |false=>
   simp only[cond_false]
   have h0:=hel c kv
   have h1:=h0.2.2.1;rw[if_pos (.inr rfl)]at h1;rw[Vcy,hDs,hg (el (pr7 ps s.els o c s.els.length) c) (wLf (el s.els c) (lf s.els c-prN s.els o c)) h0.1 h0.2.2.2 h1];omega
 unfold nR;rw[Vfd,Vcy];omega
theorem esP_ei(h:EI T ps s (A++o::(M++c::D)) v)(ho:(el s.els o).frun=true)(hc:(el s.els c).frun=true)(hoc:∀ i,∀x∈s.O i,x<((c:Nat):Int)):EI T ps (esP ps s o c) (nR ps s A D o c) v/\(lf (esP ps s o c).els c>0->c∈nR ps s A D o c/\(el (esP ps s o c).els c).frun=true)/\(∀i,∀x∈(esP ps s o c).O i,x<((c:Nat):Int))/\lf (esP ps s o c).els c=lf s.els c-prN s.els o c/\(esP ps s o c).els.length=s.els.length+1:=by
 have hL:RingL s.els (LL A M D o c):=by have:=h.ring;rw[ll_eq]at this;exact this
 have hlt:=Vpa hL
 have hne:=oc_ne hL
 have h7:=(Vng (ps:=ps) hL s.els.length).1
 have hel:=λ(j:Nat)(hj:j≠s.els.length)=>pr7_el (ps:=ps) hL s.els.length hj
 have hnew:=pr7_new (ps:=ps) hL s.els.length
 have hleft:=pr_left (ps:=ps) hL s.els.length
 have ro:=(h.run o ku ho).lf
 have rc:=(h.run c ku hc).lf
 have hN:=prN_bd s.els o c
 have lo:(el s.els o).fleft=lf s.els o:=rfl
 have lc:(el s.els c).fleft=lf s.els c:=rfl;rw[lo]at ro;rw[lc]at rc
 have hN1:=hN.2.1 ro.1
 have hN2:=hN.2.2 rc.1
 have hM:btM ps s.els c s.els.length (nx s.els o)=M.map (λx=>runT ps (el s.els x)):=by
  obtain⟨h1,h2,h3⟩:=ll_path hL;exact bt_map M o c s.els.length h1 h2 h3
 have hlen7:(pr7 ps s.els o c s.els.length).length=s.els.length+1:=by rw[pr7,pr6,Vnf,Vnf,pr5_len]
 have hlt2:∀ x∈A++o::(M++c::D),x≠s.els.length:=λx hx e=>by have:=h.lt hx;omega
 -- the old members
 have hmem:∀ x∈nR ps s A D o c,x=s.els.length\/(x∈A++o::(M++c::D)/\x ∉ M/\(x=o->lf s.els o-prN s.els o c≠0)/\(x=c->lf s.els c-prN s.els o c≠0)):=by
  intro x hx
  have hnd:=hL.ht;unfold LL at hnd;rw[Veh,Zd]at hnd;obtain⟨n1,n2,n3⟩:=hnd;rw[Zd]at n2;obtain⟨m1,m2,m3⟩:=n2;rw[Zi]at m2;rcases Ze.1 hx with q|q
  ·rcases A1_mem q with u|⟨rfl,u⟩
   ·clear q;refine .inr ⟨by simp[u],λhm=>n3 x (by simp[u]) x (by simp[hm]) rfl,λe=>?_,λe=>?_⟩
    ·subst e
     have h2:=hL.hs;unfold LL at h2;rw[Zg,Zf ku,Zi,Ve0,Zd]at h2;exact absurd rfl (h2.2.2.2 x u x (by rw[Zf ku];simp))
    ·subst e;exact absurd rfl (n3 x (by simp[u]) x ku)
   ·exact .inr ⟨by simp,λhm=>n3 x ku x (by simp[hm]) rfl,λ_=>by rw[<-hleft.1];exact u,λe=>absurd e hne⟩
  ·rcases Za.1 q with q|q
   ·exact .inl q
   ·rcases D1_mem q with u|⟨rfl,u⟩
    ·clear q;refine .inr ⟨by simp[u],λhm=>m3 x hm x (by simp[u]) rfl,λe=>?_,λe=>?_⟩
     ·subst e;exact absurd rfl (n3 x ku x (by simp[u]))
     ·subst e;exact absurd (Zv _ u) m2.1
    ·exact .inr ⟨by simp,λhm=>m3 x hm x ku rfl,λe=>absurd e.symm hne,λ_=>by rw[<-hleft.2];exact u⟩
 have hlf:lf (pr7 ps s.els o c s.els.length) c=lf s.els c-prN s.els o c:=by
  have:=(hel c kv).2.2.1;rw[if_pos (.inr rfl)]at this;exact this
 refine⟨⟨h7,λx hx hr=>?_,?_,λi=>?_,λi x hx=>?_,?_,?_,?_,λx hx hr=>?_⟩,λhpos=>?_,λi x hx=>hoc i x (List.mem_of_mem_take hx),hlf,hlen7⟩
 ·-- runs
  rcases hmem x hx with rfl|⟨q1,q2,q3,q4⟩
  ·have e:(el (esP ps s o c).els s.els.length).frun=false:=hnew.1;rw[e]at hr;cases hr
  ·obtain⟨e1,e2,e3,_⟩:=hel x (hlt2 x q1)
   have hr0:=h.run x q1 (by rw[<-e1];exact hr)
   have hl0:=hr0.lf
   have lx:(el s.els x).fleft=lf s.els x:=rfl;rw[lx]at hl0
   have e4:(el (esP ps s o c).els x).fpiece=(el s.els x).fpiece:=e2;refine⟨by rw[e4];exact hr0.pc,by rw[e4];exact hr0.is,?_⟩
   have e3':(el (pr7 ps s.els o c s.els.length) x).fleft=_:=e3
   show 1<=(el (pr7 ps s.els o c s.els.length) x).fleft/\(el (pr7 ps s.els o c s.els.length) x).fleft<=262144;rw[e3']
   by_cases hx2:x=o\/x=c
   ·rw[if_pos hx2];rcases hx2 with rfl|rfl
    ·have:=q3 rfl;omega
    ·have:=q4 rfl;omega
   ·rw[if_neg hx2];exact hl0
 ·-- they ascend
  have hs:=h.srt
  have e1:∀ x∈A++o::(M++c::D),isR (pr7 ps s.els o c s.els.length) x=isR s.els x:=λx hx=>(hel x (hlt2 x hx)).1
  refine hs.sublist ?_
  show((A1 _ A o++s.els.length::D1 _ D c).filter (isR (pr7 ps s.els o c s.els.length))).Sublist _;rw[Zw,List.filter_cons_of_neg (by show ¬(el (pr7 ps s.els o c s.els.length) s.els.length).frun=true;rw[hnew.1];simp)];rw[show A++o::(M++c::D)=(A++[o])++(M++c::D) by simp,Zw];refine List.Sublist.append ?_ ?_
  ·rw[List.filter_congr (q:=isR s.els) (λx hx=>e1 x (by rcases A1_mem hx with q|⟨q,_⟩ <;>simp[q]))];refine List.Sublist.filter _ ?_;unfold A1;cases(lf (pr5 ps s.els o c s.els.length) o==0)with
   |true=>exact List.sublist_append_left A [o]
   |false=>exact List.Sublist.refl _
  ·rw[List.filter_congr (q:=isR s.els) (λx hx=>e1 x (by rcases D1_mem hx with q|⟨q,_⟩ <;>simp[q]))];refine List.Sublist.filter _ (List.Sublist.trans (?_:(D1 (pr6 ps s.els o c s.els.length) D c).Sublist (c::D)) (List.sublist_append_right _ _));unfold D1;cases(lf (pr6 ps s.els o c s.els.length) c==0)with
   |true=>exact List.sublist_cons_self c D
   |false=>exact List.Sublist.refl _
 ·exact(h.asc i).sublist (List.take_sublist _ _)
 ·-- openers
  obtain⟨q1,q2⟩:=exL_mem (h.asc i) hx;obtain⟨r,r1,rfl,r3⟩:=h.mem i x q1
  have hlast:prL ps s.els o c s.els.length<=o/\(prL ps s.els o c s.els.length=o->lf (pr5 ps s.els o c s.els.length) o≠0):=by
   unfold prL;cases hz:(lf (pr5 ps s.els o c s.els.length) o==0)with
   |true=>simp only[cond_true];exact⟨by omega,λe=>by omega⟩
   |false=>simp only[cond_false];exact⟨Int.le_refl _,λ_=>by simpa using hz⟩
  have hrk:=hlt2 r r1
  have hfr:(el (esP ps s o c).els r).frun=true:=by
   have:=(hel r hrk).1;exact this.trans r3
  refine⟨r,?_,rfl,hfr⟩;rcases Ze.1 r1 with q|q
  ·refine Zv _ ?_;unfold A1;cases(lf (pr5 ps s.els o c s.els.length) o==0)with
   |true=>exact q
   |false=>exact Zv _ q
  ·rcases Za.1 q with rfl|q
   ·refine Zv _ ?_
    have hnz:=hlast.2 kv;unfold A1;rw[show(lf (pr5 ps s.els r c s.els.length) r==0)=false by simpa using hnz];simp
   ·exfalso
    have hs:=h.srt;rw[Zw,List.filter_cons_of_pos (show isR s.els o=true from ho),Z0]at hs
    have:=(List.pairwise_cons.1 hs.2.1).1 r (List.mem_filter.2 ⟨q,r3⟩);omega
 ·-- the sum
  have hs:=h.sum;rw[Vfd,Vcy,Vfd,Vcy,show lfN (el s.els o)=(lf s.els o).toNat from rfl,show lfN (el s.els c)=(lf s.els c).toNat from rfl]at hs
  show(s.prs++[prP s.els o c]).length+smL lfN (pr7 ps s.els o c s.els.length) (nR ps s A D o c)<=_
  have hg:=nR_sum (ps:=ps) hL lfN (λx y _ _ e=>by unfold lfN;rw[e]);rw[show lfN (el (pr7 ps s.els o c s.els.length) s.els.length)=0 by unfold lfN;rw[hnew.2.1];rfl]at hg;rw[show lfN (wLf (el s.els o) (lf s.els o-prN s.els o c))=(lf s.els o-prN s.els o c).toNat from rfl,show lfN (wLf (el s.els c) (lf s.els c-prN s.els o c))=(lf s.els c-prN s.els o c).toNat from rfl]at hg;rw[List.length_append,List.length_singleton];omega
 ·show(pr7 ps s.els o c s.els.length).length<=1+v+(s.prs++[prP s.els o c]).length;rw[hlen7,List.length_append,List.length_singleton]
  have:=h.len;omega
 ·-- the weight
  have hs:=h.wgt;rw[Vfd,Vcy,Vfd,Vcy]at hs
  show smL (pot T) (pr7 ps s.els o c s.els.length) (nR ps s A D o c)<=_
  have hg:=nR_sum (ps:=ps) hL (pot T) (λx y e1 e2 e3=>by unfold pot;rw[e1,e2,e3])
  have hnp:pot T (el (pr7 ps s.els o c s.els.length) s.els.length)<=9+smL (pot T) s.els M:=by
   unfold pot;rw[hnew.1,cond_false,hnew.2.2,hM];refine Nat.le_trans (T.fk _ _ (prK_k _ _ _ _)) (Nat.add_le_add_left ?_ 9);rw[List.map_map];exact sum_le (λx hx=>runT_pot T (h.run x (by simp[hx])))
  have po:pot T (wLf (el s.els o) (lf s.els o-prN s.els o c))=20*(lf s.els o-prN s.els o c).toNat:=by unfold pot;rw[show(wLf (el s.els o) (lf s.els o-prN s.els o c)).frun=(el s.els o).frun from rfl,ho];rfl
  have pc:pot T (wLf (el s.els c) (lf s.els c-prN s.els o c))=20*(lf s.els c-prN s.els o c).toNat:=by unfold pot;rw[show(wLf (el s.els c) (lf s.els c-prN s.els o c)).frun=(el s.els c).frun from rfl,hc];rfl
  have qo:pot T (el s.els o)=20*(lf s.els o).toNat:=by unfold pot;rw[ho,cond_true,lo]
  have qc:pot T (el s.els c)=20*(lf s.els c).toNat:=by unfold pot;rw[hc,cond_true,lc]
  rw[po,pc]at hg;rw[qo,qc]at hs;omega
 ·-- what holds
  rcases hmem x hx with rfl|⟨q1,q2,q3,q4⟩
  ·show T.P (el (pr7 ps s.els o c s.els.length) s.els.length).fin;rw[hnew.2.2,hM];refine T.pk _ _ (prK_k _ _ _ _) (λy hy=>?_);obtain⟨z,hz,rfl⟩:=Zt.1 hy;exact runT_prd T (h.run z (by simp[hz])) (h.prd z (by simp[hz]))
  ·have e:=hel x (hlt2 x q1)
   show T.P (el (pr7 ps s.els o c s.els.length) x).fin;rw[e.2.2.2];exact h.prd x q1 (by rw[<-e.1];exact hr)
 ·-- the closer
  have hz:lf (pr6 ps s.els o c s.els.length) c≠0:=by
   rw[hleft.2]
   have hp:lf (pr7 ps s.els o c s.els.length) c>0:=hpos;rw[hlf]at hp;omega
  refine⟨?_,(hel c kv).1.trans hc⟩;unfold nR D1;rw[show(lf (pr6 ps s.els o c s.els.length) c==0)=false by simpa using hz];simp
end
end Go.Proofs.YthbpjmogdonlkaaGreatDoor
namespace Go.Proofs.YthbpjmogdonlkaaGreatDoor
open Go Go.Eng
structure ClI (s:ES) (R:List Nat) (c:Nat):Prop where
 lt:c<s.els.length
 mem:lf s.els c>0->c∈R/\(el s.els c).frun=true
 ops:∀ i,∀x∈s.O i,x<((c:Nat):Int)
theorem clo_ei{T:PT}{ps:List DPiece}{v c:Nat}(hv:v<=2048):∀(n:Nat)(s:ES)(R:List Nat),EI T ps s R v->ClI s R c->lf s.els c<=n->ClOk ps c n s/\∃ R',EI T ps (clM ps c n s) R' v/\ClI (clM ps c n s) R' c
 |0,s,R,h,hc,hl=>⟨⟨⟨by omega,by have:=hc.lt;omega⟩,by omega⟩,R,h,hc⟩
 | n+1,s,R,h,hc,hl=>by
  have hix:Ix s.els c:=⟨by omega,by have:=hc.lt;omega⟩
  by_cases hp:lf s.els c>0
  ·obtain⟨hm,hr⟩:=hc.mem hp
   have hrc:=h.run c hm hr
   have hn:=isr_n hrc.is
   have hsz:=h.size hv
   have hol:∀ i,(s.O i).length<=1073741824:=λi=>by have:=h.olen i;omega
   by_cases ho:esO ps s c>0
   ·obtain⟨i,hi⟩:=opM_mem (show opM s.O _ _>0 from ho)
    have hi:esO ps s c∈s.O i:=hi;obtain⟨o,r1,r2,r3⟩:=h.mem i _ hi
    have hlt:=hc.ops i _ hi;rw[r2]at hlt;obtain⟨A,M,D,rfl⟩:=split_oc h.srt r1 hm kv r3 hr
    have hL:RingL s.els (LL A M D o c):=by have:=h.ring;rw[ll_eq]at this;exact this
    have hpr:=pr_ok hL h.run r3 hr kv;obtain⟨e1,e2,e3,e4,e5⟩:=esP_ei h r3 hr hc.ops
    have hN:=prN_bd s.els o c
    have ih:=clo_ei hv n (esP ps s o c) _ e1 ⟨by rw[e5];have:=hc.lt;omega,e2,e3⟩ (by rw[e4];omega);refine⟨⟨hix,λ_=>⟨⟨hrc.pc,⟨by have:=hn.1;show 0<=(el ps (el s.els c).fpiece.toNat).fN;omega,by have:=hn.2.1;show(el ps (el s.els c).fpiece.toNat).fN<=_;omega⟩,hol⟩,λ_=>⟨⟨by rw[r2];exact hpr,by omega,by omega⟩,by rw[r2];exact ih.1⟩⟩⟩,?_⟩
    have e:clM ps c (n+1) s=clM ps c n (esP ps s o c):=by
     conv=>lhs;unfold clM
     rw[decide_eq_true hp,decide_eq_true ho,cond_true,cond_true,r2]
    rw[e];exact ih.2
   ·have e:clM ps c (n+1) s=s:=by
     conv=>lhs;unfold clM
     rw[decide_eq_true hp,decide_eq_false ho,cond_true,cond_false]
    rw[e];exact⟨⟨hix,λ_=>⟨⟨hrc.pc,⟨by have:=hn.1;show 0<=(el ps (el s.els c).fpiece.toNat).fN;omega,by have:=hn.2.1;show(el ps (el s.els c).fpiece.toNat).fN<=_;omega⟩,hol⟩,λq=>absurd q ho⟩⟩,R,h,hc⟩
  ·have e:clM ps c (n+1) s=s:=by
    conv=>lhs;unfold clM
    rw[decide_eq_false hp,cond_false]
   rw[e];exact⟨⟨hix,λq=>absurd q hp⟩,R,h,hc⟩
theorem EI.bef{T:PT}{ps:List DPiece}{s:ES}{R:List Nat}{v:Nat}(h:EI T ps s R v):Ix s.els (bf s.els 0):=by
 obtain⟨X,q,hX⟩:=last_of R
 have hr:RingL s.els (X++q::0::[]):=by
  have:=h.ring;rw[show 0::(R++[0])=(0::R)++[0]from rfl,hX,Zo]at this;exact this
 have hq:q<s.els.length:=hr.lt q ku
 have hb:=hr.at.2;exact⟨by show 0<=(el s.els 0).fbefore;rw[hb];omega,by show(el s.els 0).fbefore<_;rw[hb];omega⟩
theorem ins_ei{T:PT}{ps:List DPiece}{s:ES}{R:List Nat}{v:Nat}(h:EI T ps s R v)(e:DEm)(he:e.frun=true->RunI ps e)(hl:e.fleft.toNat<=262144)(hw:pot T e<=ppP T (el ps v))(hq2:e.frun=false->T.P e.fin):EI T ps (insS s e) (R++[s.els.length]) (v+1)/\Sm (el (insS s e).els s.els.length) e:=by
 obtain⟨X,q,hX⟩:=last_of R
 have hr:RingL s.els (X++q::0::[]):=by
  have:=h.ring;rw[show 0::(R++[0])=(0::R)++[0]from rfl,hX,Zo]at this;exact this
 have hq:q<s.els.length:=hr.lt q ku
 have h0:=h.pos
 have hb:=hr.at.2
 have hrn:RingL (insS s e).els (0::((R++[s.els.length])++[0])):=by
  have:=hr.ins e;rw[show 0::((R++[s.els.length])++[0])=(0::R)++s.els.length::0::[] by simp,hX,Zo];exact this
 have hsm:∀ j,j≠s.els.length->Sm (el (insS s e).els j) (el s.els j):=λj hj=>insM_sm hq h0 hb hj
 have hnew:Sm (el (insS s e).els s.els.length) e:=insM_new hq h0 hb
 have hne:∀ x∈R,x≠s.els.length:=λx hx q=>by have:=h.lt hx;omega
 refine⟨⟨hrn,λx hx hf=>?_,?_,h.asc,λi x hx=>?_,?_,?_,?_,λx hx hf=>?_⟩,hnew⟩
 ·rcases Ze.1 hx with q1|q1
  ·have hs:=hsm x (hne x q1)
   have:=h.run x q1 (by rw[<-hs.2.1];exact hf);exact⟨by rw[hs.2.2.1];exact this.pc,by rw[hs.2.2.1];exact this.is,by rw[hs.2.2.2];exact this.lf⟩
  ·have q1:x=s.els.length:=by simpa using q1
   subst q1
   have:=he (by rw[<-hnew.2.1];exact hf);exact⟨by rw[hnew.2.2.1];exact this.pc,by rw[hnew.2.2.1];exact this.is,by rw[hnew.2.2.2];exact this.lf⟩
 ·rw[Zw,List.filter_congr (p:=isR (insS s e).els) (q:=isR s.els) (λx hx=>(hsm x (hne x hx)).2.1),Z0];refine⟨h.srt,?_,λx hx y hy=>?_⟩
  ·exact List.Pairwise.sublist (List.filter_sublist ..) (List.pairwise_singleton _ _)
  ·have:=h.lt ((List.mem_filter.1 hx).1)
   have hy:=(List.mem_filter.1 hy).1;simp only[Za,Zc,or_false]at hy;omega
 ·obtain⟨r,r1,r2,r3⟩:=h.mem i x hx;exact⟨r,Zv _ r1,r2,(hsm r (hne r r1)).2.1.trans r3⟩
 ·rw[Vfd,Vja (els:=s.els) (λx hx=>by unfold lfN;rw[(hsm x (hne x hx)).2.2.2]),Vcy,show lfN (el (insS s e).els s.els.length)=e.fleft.toNat by unfold lfN;rw[hnew.2.2.2]]
  have:=h.sum
  have e0:smL lfN (insS s e).els []=0:=rfl;rw[e0]
  show s.prs.length+_<=_;omega
 ·show(insM s.els e 0).length<=1+(v+1)+s.prs.length;rw[Vhb]
  have:=h.len;omega
 ·rw[Vfd,Vja (els:=s.els) (λx hx=>by unfold pot;rw[(hsm x (hne x hx)).2.1,(hsm x (hne x hx)).2.2.2,(hsm x (hne x hx)).1]),Vcy,show pot T (el (insS s e).els s.els.length)=pot T e by unfold pot;rw[hnew.1,hnew.2.1,hnew.2.2.2]]
  have:=h.wgt
  have e0:smL (pot T) (insS s e).els []=0:=rfl;rw[e0]
  show _<=ppS T ps v+ppP T (el ps v);omega
 ·rcases Ze.1 hx with q1|q1
  ·have hs:=hsm x (hne x q1);rw[hs.1];exact h.prd x q1 (by rw[<-hs.2.1];exact hf)
  ·have q1:x=s.els.length:=by simpa using q1
   subst q1;rw[hnew.1];exact hq2 (by rw[<-hnew.2.1];exact hf)
theorem opI_lt(p:DPiece)(h:0<=p.fN):I18 (opI p):=by
 have h1:=chrN_lt p.fChar
 have h2:0<=p.fN.tmod 3/\p.fN.tmod 3<3:=⟨Int.tmod_nonneg _ h,Int.tmod_lt_of_pos _ gj⟩
 have h3:(cond p.fClose 1 0:Int)=0\/(cond p.fClose 1 0:Int)=1:=by cases p.fClose <;>simp
 unfold opI
 have:chrN p.fChar*6+(p.fN.tmod 3).toNat*2+(cond p.fClose 1 0:Int).toNat*1<18:=by omega
 generalize chrN p.fChar*6+(p.fN.tmod 3).toNat*2+(cond p.fClose 1 0:Int).toNat*1=i at this;unfold I18;omega
theorem mt_ei{T:PT}{ps:List DPiece}(hP:∀ v,v<ps.length->isrP (el ps v)=false->Vkm (el ps v)=true->T.P (el ps v).fInline){s:ES}{R:List Nat}{v:Nat}(hv:v<ps.length)(hv2:v<2048)(h:EI T ps s R v):MtOk ps v (el ps v) s/\∃ R',EI T ps (mtS ps v (el ps v) s) R' (v+1):=by
 have hsz:=h.size kv
 have hPv:=hP v hv;obtain⟨p,hp⟩:∃ p,p=el ps v:=⟨_,rfl⟩
 rw[<-hp]at hPv ⊢
 have hb:=h.bef;cases hr:isrP p with
 |false=>
  refine⟨⟨by omega,h.pos,hb,(λq=>by rw[hr]at q;cases q),(λq=>by rw[hr]at q;cases q),(λq=>by rw[hr]at q;cases q),(λq=>by rw[hr]at q;cases q)⟩,?_⟩;unfold mtS;rw[hr,cond_false];cases hkp:Vkm p with
  |true=>exact⟨_,(ins_ei h (mkE p.fInline) (λq=>by cases q) (Nat.zero_le _) (by rw[<-hp];unfold ppP;rw[hr,hkp];exact Nat.le_refl _) (λ_=>hPv hr hkp)).1⟩
  |false=>exact⟨R,h.mono (Nat.le_succ _)⟩
 | true=>
  have hn:=isr_n hr
  have hrun:RunI ps (rnEm v p.fN):=⟨⟨by show 0<=((v:Nat):Int);omega,by show((v:Nat):Int)<_;omega⟩,by show isrP (el ps ((v:Nat):Int).toNat)=true;rw[show((v:Nat):Int).toNat=v from rfl, <-hp];exact hr,⟨hn.1,hn.2.1⟩⟩
  obtain⟨h1,h3⟩:=ins_ei h (rnEm v p.fN) (λ_=>hrun) (by show p.fN.toNat<=_;have:=hn.2.1;omega) (by rw[<-hp];unfold ppP;rw[hr];exact Nat.le_refl _) (λq=>by cases q)
  have hlen1:(insS s (rnEm v p.fN)).els.length=s.els.length+1:=Vhb _ _ _
  have hlf:lf (insS s (rnEm v p.fN)).els s.els.length=p.fN:=h3.2.2.2
  have hcl:ClI (insS s (rnEm v p.fN)) (R++[s.els.length]) s.els.length:=⟨by omega,λ_=>⟨by simp,h3.2.1⟩,λi x hx=>by
   obtain⟨r,r1,r2,_⟩:=h.mem i x hx
   have:=h.lt r1
   omega⟩
  have hclo:=clo_ei kv p.fN.toNat _ _ h1 hcl (by rw[hlf];have:=hn.1;omega)
  have hA:∃ R',EI T ps (mtA ps v p s) R' (v+1)/\ClI (mtA ps v p s) R' s.els.length:=by
   unfold mtA;cases p.fClose with
   |true=>exact hclo.2
   |false=>exact⟨_,h1,hcl⟩
  obtain⟨R',a1,a2⟩:=hA
  have asz:=a1.size kv
  have ao:=a1.olen (opI p)
  have hN0:0<=p.fN:=by have:=hn.1;omega
  refine⟨⟨by omega,h.pos,hb,λ_ _=>hclo.1,λ_=>⟨by show 0<=((s.els.length:Nat):Int);omega,by show((s.els.length:Nat):Int)<_;have:=a2.lt;omega⟩,λ_=>hN0,λ_=>⟨by omega,opI_lt p hN0⟩⟩,?_⟩;unfold mtS;rw[hr,cond_true];cases hmo:mtO p (mtA ps v p s) (lenS s)with
  |false=>exact⟨R',a1⟩
  | true=>
   have hpos:lf (mtA ps v p s).els s.els.length>0:=by
    unfold mtO at hmo;cases ho:p.fOpen with
    |false=>rw[ho]at hmo;cases hmo
    |true=>rw[ho,cond_true]at hmo;exact of_decide_eq_true hmo
   obtain⟨m1,m2⟩:=a2.mem hpos;refine⟨R',a1.ring,a1.run,a1.srt,λi=>?_,λi x hx=>?_,a1.sum,a1.len,a1.wgt,a1.prd⟩
   ·show(updO (mtA ps v p s).O (opI p) ((mtA ps v p s).O (opI p)++[lenS s]) i).Pairwise _;unfold updO;cases Nat.beq i (opI p)with
    |false=>exact a1.asc i
    |true=>
     simp only[cond_true];rw[Z0];refine⟨a1.asc _,List.pairwise_singleton _ _,λx hx y hy=>?_⟩;simp only[Za,Zc,or_false]at hy;subst hy;exact a2.ops _ x hx
   ·have hx:x∈updO (mtA ps v p s).O (opI p) ((mtA ps v p s).O (opI p)++[lenS s]) i:=hx;unfold updO at hx;cases hq:Nat.beq i (opI p)with
    |false=>rw[hq]at hx;exact a1.mem i x hx
    |true=>
     rw[hq,cond_true]at hx;rcases Ze.1 hx with q|q
     ·exact a1.mem _ x q
     ·simp only[Za,Zc,or_false]at q;subst q;exact⟨s.els.length,m1,rfl,m2⟩
theorem mtI_ei(T:PT)(ps:List DPiece):EI T ps mtI [] 0:=by
 refine⟨⟨⟨⟨rfl,rfl⟩,trivial⟩,by simp,by simp,λx hx=>?_⟩,(λx hx=>by cases hx),ku,(λi=>by simp[mtI]),(λi x hx=>by simp[mtI]at hx),gj,gj,Nat.le_refl _,(λx hx=>by cases hx)⟩;simp at hx;subst hx;decide
theorem mtR_ei{T:PT}(ps:List DPiece)(hP:∀ v,v<ps.length->isrP (el ps v)=false->Vkm (el ps v)=true->T.P (el ps v).fInline)(hn:ps.length<=2048):∀ v,v<=ps.length->∃ R,EI T ps (mtR ps v) R v
 |0,_=>⟨[],mtI_ei T ps⟩
 |v+1,h=>by
  obtain⟨R,hR⟩:=mtR_ei ps hP hn v kv;exact(mt_ei hP kv kv hR).2
def T0:PT:=⟨λ_=>0,λ_=>True,λ_=>Nat.zero_le _,λ_ _ _=>Nat.zero_le _,λ_ _=>trivial,λ_ _ _ _=>trivial⟩
theorem mtR_ok(ps:List DPiece)(hn:ps.length<=2048)(v:Nat)(hv:v<ps.length):MtOk ps v (el ps v) (mtR ps v):=by
 obtain⟨R,hR⟩:=mtR_ei (T:=T0) ps (λ_ _ _ _=>trivial) hn v kv;exact(mt_ei (T:=T0) (λ_ _ _ _=>trivial) hv kv hR).1
theorem mtR_bt(ps:List DPiece)(hn:ps.length<=2048):BtOk ps (mtR ps ps.length).els 0 (mtR ps ps.length).els.length (nx (mtR ps ps.length).els 0)/\(mtR ps ps.length).els.length<=600000000/\0<(mtR ps ps.length).els.length:=by
 obtain⟨R,hR⟩:=mtR_ei (T:=T0) ps (λ_ _ _ _=>trivial) hn ps.length (Nat.le_refl _)
 have hsz:=hR.size hn
 have hnd:=hR.ring.hs;rw[show 0::(R++[0])=(0::R)++[0]from rfl,List.dropLast_concat,Zi]at hnd;refine⟨bt_path R 0 0 _ hR.ring.lk hnd.1 (λx hx=>⟨hR.lt hx,RunI.ok (hR.run x hx)⟩) (Vpd _ R hnd.2 (λx hx=>hR.lt hx)),hsz.1,hR.pos⟩
theorem mtR_pt(T:PT)(ps:List DPiece)(hn:ps.length<=2048)(hP:∀ v,v<ps.length->isrP (el ps v)=false->Vkm (el ps v)=true->T.P (el ps v).fInline):
  ((btM ps (mtR ps ps.length).els 0 (mtR ps ps.length).els.length (nx (mtR ps ps.length).els 0)).map T.f).sum<=ppS T ps ps.length/\∀ x∈btM ps (mtR ps ps.length).els 0 (mtR ps ps.length).els.length (nx (mtR ps ps.length).els 0),T.P x:=by
 obtain⟨R,hR⟩:=mtR_ei ps hP hn ps.length (Nat.le_refl _)
 have hnd:=hR.ring.hs;rw[show 0::(R++[0])=(0::R)++[0]from rfl,List.dropLast_concat,Zi]at hnd
 have hb:btM ps (mtR ps ps.length).els 0 (mtR ps ps.length).els.length (nx (mtR ps ps.length).els 0)=R.map (λx=>runT ps (el (mtR ps ps.length).els x)):=bt_map R 0 0 _ hR.ring.lk hnd.1 (Vpd _ R hnd.2 (λx hx=>hR.lt hx));rw[hb,List.map_map];refine⟨Nat.le_trans (sum_le (λx hx=>runT_pot T (hR.run x hx))) hR.wgt,λx hx=>?_⟩;obtain⟨y,hy,rfl⟩:=Zt.1 hx;exact runT_prd T (hR.run y hy) (hR.prd y hy)
theorem bytes_cat1(s t:ByteArray):Va8 (s++t)=Va8 s++Va8 t:=by simp[Va8]
theorem bytes_uni1(s:ByteArray):Uni 1 (Va8 s):=by
 intro y hy;simp only[Va8,Zt]at hy;obtain⟨b,_,rfl⟩:=hy;exact⟨rfl,rfl⟩
theorem Vlt(t s:ByteArray)(g:Nat)(hsz:t.size+s.size<=3000000000):Va2 Tryz.prog 43 [.ptr 1000 0,jS s] [(1000,bldA t g)] (bldG g) (.av (.tup [.val (.int .i64 ((ByteArray.size s:Nat):Int)),.val .nilIface])) [(1000,bldA (t++s) (g+1))] (bldG (g+1)):=by
 refine BEGb (λ_:Unit=>.av (.tup [.val (.int .i64 ((ByteArray.size s:Nat):Int)),.val .nilIface])) () Tryz.func43 kx ku (by simp[bldG]) (by simp[OkSV,SV.keys]) (Vp9 t g g rfl) (by simp[OkSV,SV.keys]) (Vp9 _ _ _ rfl) rfl rfl ?_
 have hap:(g:Nat)=g/\Uni 1 (Va8 s)/\((Va8 t:List AV).length+(Va8 s:List AV).length)*1<=140737488355328:=⟨rfl,bytes_uni1 s,by rw[Vd7,Vd7];omega⟩
 refine GO (tn 3 (kg (Vev (.own (1300,6) g 1 (Va8 t)) rfl) trivial (tn 6 (kp hap (kw (show(Va8 t++Va8 s:List AV)=Va8 (t++s)from(bytes_cat1 t s).symm) (tn 7 z)))))) kx ?_;refine ENb kx ?_ ?_
 ·intro p hp;simp only[Za,Zc,or_false]at hp;subst hp;kernel_rfl
 ·intro p hp;simp only[bldG,Za,Zc,or_false]at hp;subst hp;kernel_rfl
end Go.Proofs.YthbpjmogdonlkaaGreatDoor
namespace Go.Eng
open Go
section
variable {P:Program} {α:Type}
def KZ(P:Program)(fn:Func)(N t:Nat)(enc:α->List AV)(bx:List (Nat×ABox))(M:α):Exit->St->Prop:=EndsG P fn bx [] (.av (.fs N t (enc M))) bx []
theorem BEGz(N t:Nat)(enc:α->List AV)(M:α){f:FuncId}{fn:Func}{args:List SV}{bx:List (Nat×ABox)}(hf:P.funcs[f]? =some fn)(hok:Vkd fn args bx [] (.av (.fs N t (enc M))) bx []=true)
  (h:Nx P (KZ P fn N t enc bx) M (start (Vbc fn) ⟨args++List.replicate (fn.ntmps-args.length) .junk,bx,[]⟩)):Va2 P f args bx [] (.av (.fs N t (enc M))) bx []:=by
 simp only[Vkd,Bool.and_eq_true,decide_eq_true_eq,Bool.not_eq_true',beq_iff_eq]at hok;obtain⟨⟨⟨⟨⟨⟨⟨⟨⟨⟨⟨h1,h2⟩,h3⟩,h4⟩,h5⟩,h6⟩,h7⟩,h8⟩,h9⟩,h10⟩,h11⟩,h12⟩:=hok;obtain⟨c,hb⟩:=Option.isSome_iff_exists.1 h1
 have e:Vbc fn=c:=by simp[Vbc,hb]
 refine Vbl (bx1:=bx) hf hb h2 rfl h3 (λp hp=>?_) (λp hp=>?_) (λs hs=>Vcs (Zn.1 h6 s hs)) (Vg8 h7) (Vcs h8) (Vg8 h9) rfl rfl ?_ (λp hp=>?_) (λp hp=>⟨p.2,hp,λ_ _ h=>h⟩)
 ·have:=Zn.1 h4 p hp;simpa using this
 ·cases hp
 ·rw[<-e];exact h.x
 ·have:=Zn.1 h12 p hp;simpa using this
theorem ENz{fn:Func}{N t:Nat}{enc:α->List AV}{bx:List (Nat×ABox)}{M:α}{X:Cf}(id:Nat){k:Key}{g sz:Nat}(he:Vnr X=some .ret)(h:aRes P fn (stOf X) true=some (.own k g sz (enc M)))(hk:k.2=t+1)(hg:(stOf X).gen k=g)(hid:(id,ABox.ge N)∈bx)(hlt:bx.all (λp=>decide (p.1<2000))=true)
  (hb:bx.map (λp=>(stOf X).bx.lookup p.1)=bx.map (λp=>some p.2)):Nx P (KZ P fn N t enc bx) M X:=by
 have hb':∀ p∈bx,(stOf X).bx.lookup p.1=some p.2:=λp hp=>List.map_inj_left.1 hb p hp
 have hl:∀ p∈bx,p.1<2000:=λp hp=>by simpa using Zn.1 hlt p hp
 have fs:FsOk bx [] (stOf X) (.own k g sz (enc M)) (.av (.fs N t (enc M))):=⟨k,g,sz,enc M,N,id,rfl,by rw[hk];rfl,hid,hl,rfl,by omega,hg⟩
 unfold Vnr at he
 split at he
 ·simp only[Zl]at he;subst he;exact⟨⟨⟨true,_,h,.inr fs⟩,hb',by simp⟩⟩
 ·simp at he
end
end Go.Eng
namespace Go.Eng
variable {P:Program}
theorem Vl2(N:Nat){f:FuncId}{fn:Func}{t e:TypeId}{sz bt:Nat}{z:Value}{i0 i1 i2 i3:Nat}{a0 b0 b1 c0 d0 d1 d2 d3:Oper}{t':TypeId}(hf:P.funcs[f]? =some fn)
  (hb:fn.body=some (.seq (.region i0 #[a0] false) (.seq (.seq (.region i1 #[b0,b1] false) (.cond (.tmp 4) (.seq (.region i2 #[c0] false) .ret) .skip)) (.seq (.region i3 #[d0,d1,d2,d3] false) .ret))))
  (hname : (fn.name == "runtime.NumGoroutine") = false) (hn : fn.ntmps = 8) (hres : fn.results.toList = [.tmp 2])
  (ha0:a0.op=.assign (.const (.slice none 0 0))/\a0.dst=some 2/\a0.guard=none) (hb0:b0.op=.move (.tmp 0)/\b0.dst=some 3/\b0.guard=none) (hb1:b1.op=.binOp .eql t (.tmp 3) (.const (.slice none 0 0)) t'/\b1.dst=some 4/\b1.guard=none)
  (hc0:c0.op=.assign (.const (.slice none 0 0))/\c0.dst=some 2/\c0.guard=none) (hd0:d0.op=.buildSlice t 0 #[]/\d0.dst=some 5/\d0.guard=none) (hd1:d1.op=.move (.tmp 0)/\d1.dst=some 6/\d1.guard=none)
  (hd2:d2.op=.call {callee:=.builtin .append,args:=#[.tmp 5,.tmp 6],argTypes:=#[t,t]}/\d2.dst=some 7/\d2.guard=none) (hd3:d3.op=.assign (.tmp 7)/\d3.dst=some 2/\d3.guard=none)
  (ht:Vbb P t=some e) (hi:Vak P e=some (sz,bt,some z)) (hz:z.cells.size=sz) (hbt:0<bt) (l:List AV) (hu:Uni sz l) (hl:l.length*bt<=140737488355328):
  Va2 P f [.av (.sl l)] [(1500,.ge N)] [] (.av (.fs N e l)) [(1500,.ge N)] []:=by
 have ht':P.underlying t=some (.slice e):=by
  unfold Vbb at ht;split at ht
  ·rename_i hh;simp at ht;subst ht;exact hh
  ·simp at ht
 have h2:Vdr P t=true:=by unfold Vdr;rw[ht']
 have hone:∀ p∈([(1500,ABox.ge N)]:List (Nat×ABox)),p=(1500,.ge N):=λp hp=>by simpa using hp
 refine Vbl (bx1:=[(1500,.ge N)]) hf hb hname hn ku (λp hp=>by rw[hone p hp];exact(by decide:(1000:Nat)<=1500)) ku (by intro s hs;simp at hs;subst hs;exact ok_av rfl _ _) (λp hp s hs=>by rw[hone p hp]at hs;cases hs) (ok_av rfl _ _) (λp hp s hs=>by rw[hone p hp]at hs;cases hs) rfl rfl ?_ (λp hp=>by rw[hone p hp];exact .inl (by decide:(1500:Nat)<2000)) (λp hp=>⟨p.2,hp,λ_ _ h=>h⟩)
 have hend:∀(S:St)(g:Nat),S.fr[2]? =some (.own (5,e+1) g sz l)->S.gen (5,e+1)=g->S.bx=[(1500,.ge N)]->EndsG P fn [(1500,.ge N)] [] (.av (.fs N e l)) [(1500,.ge N)] [] .ret S:=by
  intro S g h1 h3 h4;refine⟨⟨true,.own (5,e+1) g sz l,?_,.inr ⟨(5,e+1),g,sz,l,N,1500,rfl,rfl,by simp,λp hp=>by rw[hone p hp];exact(by decide:(1500:Nat)<2000),rfl,Nat.succ_pos e,h3⟩⟩,λp hp=>by rw[hone p hp,h4];rfl,by simp⟩;unfold aRes;rw[hres];simp[Vqk,h1,SV.normK]
 refine Vo5 (Van ?_);refine Vbv ha0.2.2 (Vce (.inr ha0.1)) trivial ?_;rw[ha0.2.1];refine Vbk rfl ?_;refine Vo5 (Vo5 (Van ?_));refine Vbv hb0.2.2 (Vce (.inl hb0.1)) trivial ?_;rw[hb0.2.1];refine WO_isnil (l:=l) hb1.1 hb1.2.2 ht' rfl (λb hb=>?_);rw[hb1.2.1];refine Vbk rfl ?_;refine W_cond (b:=b) rfl ?_;cases b with
 | true=>
  have hl0:=hb rfl;subst hl0;simp only[if_true];refine Vo5 (Van ?_);refine Vbv hc0.2.2 (Vce (.inr hc0.1)) trivial ?_;rw[hc0.2.1];refine Vbk rfl ?_;refine Vai (S':=⟨[.av (.sl []),.junk,.own (5,e+1) 0 sz [],.junk,.junk,.junk,.junk,.junk],[(1500,.ge N)],[]⟩) ?_ (W_ret (hend _ 0 rfl rfl rfl));intro G w a hr;refine⟨hr.wf,hr.size,λt s hs=>?_,hr.bx,hr.gn,hr.defers⟩
  match t,hs with
  |0,hs=>exact hr.fr 0 s hs
  |2,hs=>
   simp only[Zk,Zj,Zl]at hs;subst hs
   have h2:RepS G w .nil _:=hr.fr 2 .nil rfl
   have h2:a.tmps.getD 2 undef=.slice none 0 0:=h2;refine⟨Nat.succ_pos e,Nat.zero_le _,none,0,[],h2,rfl,by simp,Nat.le_refl _,λ_=>rfl,by simp,.inl rfl,λ_=>.inl ⟨rfl,.inl rfl⟩⟩
  |1,hs=>simp only[Zk,Zj,Zl]at hs;subst hs;trivial
  |3,hs=>simp only[Zk,Zj,Zl]at hs;subst hs;trivial
  |4,hs=>simp only[Zk,Zj,Zl]at hs;subst hs;trivial
  |5,hs=>simp only[Zk,Zj,Zl]at hs;subst hs;trivial
  |6,hs=>simp only[Zk,Zj,Zl]at hs;subst hs;trivial
  |7,hs=>simp only[Zk,Zj,Zl]at hs;subst hs;trivial
  |t+8,hs=>simp at hs
 |false=>
  simp only[Bool.false_eq_true,if_false];refine W_skip ?_;refine Vo5 (Van ?_);refine Vbv hd0.2.2 (Voq 5 hd0.1 ht hi) trivial ?_;rw[hd0.2.1];refine Vbv hd1.2.2 (Vce (.inl hd1.1)) trivial ?_;rw[hd1.2.1]
  show WO P _ [d2,d3] _ ⟨[.av (.sl l),.junk,.nil,.av (.sl l),.av (.val (.bool false)),.own (5,e+1) 1 sz [],.av (.sl l),.junk],[(1500,.ge N)],[((5,e+1),1)]⟩;refine Vbv hd2.2.2 (Vau (Vft hd2.1 hd2.2.1 rfl rfl rfl ht hi hz hbt h2)) ⟨by simp[St.gen],hu,by simpa using hl⟩ ?_;rw[hd2.2.1];refine Vbv hd3.2.2 (Vce (.inr hd3.1)) trivial ?_;rw[hd3.2.1];refine Vbk rfl ?_;exact W_ret (hend _ 2 rfl (by simp[St.gen,St.next,St.put,List.lookup]) rfl)
end Go.Eng
namespace Go.Proofs.YthbpjmogdonlkaaGreatDoor
open Go Go.Eng
def gxB(N:Nat):List (Nat×ABox):=[(1500,.ge N)]
def fsS(N:Nat)(l:List ByteArray):AV:=.fs N 9 (l.map Vay)
def fsP(N:Nat)(l:List DPair):AV:=.fs N 168 (l.map Vbh)
def fsC(N:Nat)(l:List DCited):AV:=.fs N 77 (l.map Vbj)
theorem r3{a b c:Prop}(x:a)(y:b)(z:c):a/\b/\c:=⟨x,y,z⟩
theorem clnS_to(N:Nat)(l:List ByteArray)(h:l.length<=1073741824):Va2 Tryz.prog 81 [jL (l.map Vay)] (gxB N) [] (.av (fsS N l)) (gxB N) []:=
 Vl2 N (t:=29) (e:=9) (sz:=1) (bt:=16) (z:=.string ⟨#[]⟩) Tryz.func81 (Eq.refl Tryz.f81.body) kx kx kx (r3 rfl rfl rfl) (r3 rfl rfl rfl) (r3 rfl rfl rfl) (r3 rfl rfl rfl) (r3 rfl rfl rfl) (r3 rfl rfl rfl) (r3 rfl rfl rfl) (r3 rfl rfl rfl) kx kx kx gj (l.map Vay) (uni_strAV l) (by rw[Zs];omega)
theorem clnC_to(N:Nat)(l:List DCited)(h:l.length<=1073741824):Va2 Tryz.prog 82 [jL (l.map Vbj)] (gxB N) [] (.av (fsC N l)) (gxB N) []:=
 Vl2 N (t:=40) (e:=77) (sz:=4) (bt:=56) (z:=.agg #[.string ⟨#[]⟩,.string ⟨#[]⟩,.string ⟨#[]⟩,.bool false]) Tryz.func82 (Eq.refl Tryz.f82.body) kx kx kx (r3 rfl rfl rfl) (r3 rfl rfl rfl) (r3 rfl rfl rfl) (r3 rfl rfl rfl) (r3 rfl rfl rfl) (r3 rfl rfl rfl) (r3 rfl rfl rfl) (r3 rfl rfl rfl) kx kx kx gj (l.map Vbj) (uni_aCited l) (by rw[Zs];omega)
theorem clnP_to(N:Nat)(l:List DPair)(h:l.length<=1073741824):Va2 Tryz.prog 125 [jL (l.map Vbh)] (gxB N) [] (.av (fsP N l)) (gxB N) []:=
 Vl2 N (t:=37) (e:=168) (sz:=2) (bt:=32) (z:=.agg #[.string ⟨#[]⟩,.string ⟨#[]⟩]) Tryz.func125 (Eq.refl Tryz.f125.body) kx kx kx (r3 rfl rfl rfl) (r3 rfl rfl rfl) (r3 rfl rfl rfl) (r3 rfl rfl rfl) (r3 rfl rfl rfl) (r3 rfl rfl rfl) (r3 rfl rfl rfl) (r3 rfl rfl rfl) kx kx kx gj (l.map Vbh) (uni_aPair l) (by rw[Zs];omega)
def agA(N:Nat)(a:DAttr):AV:=.agg [vS a.fID,fsS N a.fClasses,fsP N a.fPairs]
theorem cpyT_to(N:Nat)(a:DAttr)(ha:Vgw a<=1073741824):Va2 Tryz.prog 80 [.av (cAttr a)] (gxB N) [] (.av (agA N a)) (gxB N) []:=by
 have hwa:=Vfy a
 have hw_0:=Vd8 (w:=wStr) (λ_=>Nat.succ_pos _) a.fClasses
 have hw_1:=Vd8 (w:=Vmt) Vof a.fPairs
 have c1:=clnS_to N a.fClasses kv
 have c2:=clnP_to N a.fPairs kv;refine bGs Tryz.func80 ?_;refine gO (tn 4 (kg c1 trivial (tn 4 (kg c2 trivial (tn 4 z))))) ?_;exact eNs
def agI(N:Nat)(x:DInline)(ks:List AV):AV:=.agg [(vI x.fKind),(vS x.fText),(vS x.fDest),(vS x.fTitle),(vS ((x.fAttr).fID)),fsS N x.fAttr.fClasses,fsP N x.fAttr.fPairs,fsS N x.fArgs,fsC N x.fCites,(.fs N 42 ks)]
mutual
def gI(N:Nat):DInline->AV
 |⟨y0,y1,y2,y3,y4,y5,y6,y7⟩=>agI N ⟨y0,y1,y2,y3,y4,y5,y6,y7⟩ (gIs N y7)
def gIs(N:Nat):List DInline->List AV
 |[]=>[]
 |x::l=>gI N x::gIs N l
end
theorem gIs_map(N:Nat):∀ l,gIs N l=l.map (gI N)
 |[]=>rfl
 |x::l=>by rw[gIs,gIs_map N l];rfl
theorem gI_eq(N:Nat)(x:DInline):gI N x=agI N x (x.fKids.map (gI N)):=by cases x;rw[gI,gIs_map]
theorem uniG(N:Nat)(x:DInline)(ks:List AV):Uni 10 [agI N x ks]:=by
 intro y hy;simp only[List.mem_singleton]at hy;subst hy;exact⟨rfl,rfl⟩
theorem uniGL(N:Nat)(l:List DInline):Uni 10 (l.map (gI N)):=by
 intro y hy;simp only[Zt]at hy;obtain⟨x,_,rfl⟩:=hy;rw[gI_eq];exact⟨rfl,rfl⟩
theorem mgI_to(N:Nat)(x:DInline)(ks:List AV)(ha:Vgw x.fAttr<=1073741824)(h1:x.fArgs.length<=1073741824)(h2:x.fCites.length<=1073741824)
  (c4:Va2 Tryz.prog 21 [jL (x.fKids.map Va3)] (gxB N) [] (.av (.fs N 42 ks)) (gxB N) []):Va2 Tryz.prog 42 [.av (Vap x)] (gxB N) [] (.av (agI N x ks)) (gxB N) []:=by
 have c1:=cpyT_to N x.fAttr ha
 have c2:=clnS_to N x.fArgs h1
 have c3:=clnC_to N x.fCites h2;obtain⟨k,t,d,ti,at',ar,ci,ki⟩:=x;refine bGs Tryz.func42 ?_;refine gO (tn 4 (kg c1 trivial (tn 4 (kg c2 trivial (tn 4 (kg c3 trivial (tn 4 (kg c4 trivial (tn 4 z))))))))) ?_;exact eNs
def mgc(x:DInline)(r:List DInline):List DInline:=match r with
 |[]=>[x]
 |y::q=>if x.fKind=1/\y.fKind=1 then{x with fText:=x.fText++y.fText}::q else x::y::q
def mgL:List DInline->List DInline
 |[]=>[]
 |x::l=>mgc x (mgL l)
theorem ba_nil(s:ByteArray):s++(⟨#[]⟩:ByteArray)=s:=by apply ByteArray.ext;simp
theorem nil_ba(s:ByteArray):(⟨#[]⟩:ByteArray)++s=s:=by apply ByteArray.ext;simp
theorem sz0:ByteArray.size (⟨#[]⟩:ByteArray)=0:=rfl
def catT:List DInline->ByteArray
 |[]=>⟨#[]⟩
 |x::l=>x.fText++catT l
theorem catT_snoc(l:List DInline)(x:DInline):catT (l++[x])=catT l++x.fText:=by
 induction l with
 |nil=>simp only[Zp,catT];rw[ba_nil,nil_ba]
 |cons y l ih=>simp[catT,ih,ByteArray.append_assoc]
theorem mgc_n{x:DInline}{r:List DInline}(h:x.fKind≠1):mgc x r=x::r:=by
 unfold mgc;cases r with
 |nil=>rfl
 |cons y q=>simp only;rw[if_neg (λe=>h e.1)]
theorem mg_run(rest:List DInline)(hr:∀ y q,rest=y::q->y.fKind≠1):∀(l:List DInline)(x:DInline),x.fKind=1->(∀y∈l,y.fKind=1)->mgL (x::(l++rest))={x with fText:=x.fText++catT l}::mgL rest:=by
 intro l
 induction l with
 | nil=>
  intro x hx _;simp only[Zp,catT];rw[ba_nil];cases rest with
  |nil=>cases x;rfl
  | cons y q=>
   have hy:=hr y q rfl
   have e:mgL (x::y::q)=x::mgL (y::q):=by
    show mgc x (mgc y (mgL q))=x::mgc y (mgL q);rw[mgc_n hy];unfold mgc;simp only;rw[if_neg (λe=>hy e.2)]
   rw[e];cases x;rfl
 |cons y l ih=>
  intro x hx hl
  have hy:=hl y ku
  have:=ih y hy (λw hw=>hl w (by simp[hw]))
  show mgc x (mgL (y::(l++rest)))=_;rw[this];unfold mgc;simp only;rw[if_pos ⟨hx,hy⟩, <-ByteArray.append_assoc];simp[catT,ByteArray.append_assoc]
theorem eqs_sz{s:ByteArray}(h:eqs s ⟨#[]⟩=true):s.size=0:=by
 unfold eqs at h
 have:=eq_of_beq h
 have h2:=congrArg List.length this;simpa using h2
theorem catT_le(a b:List DInline):(catT (a++b)).size=(catT a).size+(catT b).size:=by
 induction a with
 |nil=>simp only[Zp,catT,sz0];omega
 |cons x a ih=>simp only[Zg,catT,Zq,ih];omega
def kG:Key:=(3,43)
def KBb:Key:=(1300,6)
def mgS(N:Nat)(xs:List DInline)(v g h:Nat)(os:List AV):St:=sx 73 [(0,jL (xs.map Va3)),(3,.own kG g 10 os),(4,jI ((v:Nat):Int))] (gxB N) [(kG,g),(KBb,h)]
def mgT(N:Nat)(xs:List DInline)(j g h:Nat)(os:List AV)(f:Int)(t:ByteArray):St:=sx 73 [(0,jL (xs.map Va3)),(3,.own kG g 10 os),(4,jI ((j:Nat):Int)),(5,jI f),(6,.ptr 6 0)] (gxB N++[(6,.cells 80 [.son 6,.own KBb h 1 (Va8 t)])]) [(kG,g),(KBb,h)]
def mgX(K:List DInline->List DInline)(x:DInline):DInline:={x with fKids:=K x.fKids}
structure MgO (xs:List DInline):Prop where
 len:xs.length<=1073741824
 tot:(catT xs).size<=1073741824
 one:∀ x∈xs,Vgw x.fAttr<=1073741824/\x.fArgs.length<=1073741824/\x.fCites.length<=1073741824/\(x.fKind=1->0<x.fText.size)
theorem mg_runX(K:List DInline->List DInline)(l:List DInline):catT (l.map (mgX K))=catT l:=by
 induction l with
 |nil=>rfl
 |cons x l ih=>simp only[List.map_cons,catT,ih];rfl
theorem gos_push(N:Nat){os:List AV}{out:List DInline}(ho:os=out.map (gI N))(y:DInline):os++[gI N y]=(out++[y]).map (gI N):=by
 rw[ho];simp
theorem mgx_el(K:List DInline->List DInline)(xs:List DInline)(v:Nat)(h:v<xs.length):(xs.map (mgX K)).drop v=mgX K (el xs v)::(xs.map (mgX K)).drop (v+1):=by
 rw[Zr (by simpa using h)];simp[el,h]
theorem mg_run2(ys:List DInline)(v j:Nat)(hvj:v<j)(hj:j<=ys.length)(hall:∀ k,v<=k->k<j->(el ys k).fKind=1)(h3:¬ (j<ys.length/\(el ys j).fKind=1)):mgL (ys.drop v)={el ys v with fText:=catT ((ys.drop v).take (j-v))}::mgL (ys.drop j):=by
 have h1:v<ys.length:=by omega
 have hdr:ys.drop v=el ys v::ys.drop (v+1):=by
  rw[Zr h1];simp[el,h1]
 have h2:=hall v (Nat.le_refl _) hvj
 have e1:ys.drop v=el ys v::(((ys.drop v).take (j-v)).drop 1++ys.drop j):=by
  have:((ys.drop v).take (j-v))=el ys v::((ys.drop v).take (j-v)).drop 1:=by
   rw[hdr,show j-v=(j-v-1)+1 by omega,List.take_succ_cons];rfl
  rw[<-Zg, <-this]
  conv=>lhs;rw[<-Zx (j-v) (ys.drop v)]
  rw[List.drop_drop,show v+(j-v)=j by omega]
 have e2:catT ((ys.drop v).take (j-v))=(el ys v).fText++catT (((ys.drop v).take (j-v)).drop 1):=by
  rw[hdr,show j-v=(j-v-1)+1 by omega,List.take_succ_cons];simp[catT]
 rw[e2]
 conv=>lhs;rw[e1]
 refine mg_run _ ?_ _ _ h2 ?_
 ·intro w q hw;rcases Nat.lt_or_ge j ys.length with h4|h4
  ·intro e;refine h3 ⟨h4,?_⟩;rw[Zr h4]at hw
   have:=(List.cons.inj hw).1;rw[<-e, <-this];simp[el,h4]
  ·rw[List.drop_eq_nil_of_le h4]at hw;cases hw
 ·intro w hw
  have hw2:=List.mem_of_mem_drop hw;obtain⟨k,hk,e⟩:=List.getElem_of_mem hw2;rw[List.length_take,List.length_drop]at hk;rw[List.getElem_take,List.getElem_drop]at e
  have:=hall (v+k) kv kv;rw[<-e];simpa[el,show v+k<ys.length by omega]using this
theorem el_mgX(K:List DInline->List DInline)(xs:List DInline)(k:Nat)(h:k<xs.length):el (xs.map (mgX K)) k=mgX K (el xs k):=by simp[el,h]
theorem mg_to(N:Nat)(K:List DInline->List DInline)(xs:List DInline)(hX:MgO xs)(hI:∀ x∈xs,Va2 Tryz.prog 42 [.av (Vap x)] (gxB N) [] (.av (gI N (mgX K x))) (gxB N) []):Va2 Tryz.prog 21 [jL (xs.map Va3)] (gxB N) [] (.av (.fs N 42 ((mgL (xs.map (mgX K))).map (gI N)))) (gxB N) []:=by
 have hlq:=Va6 Va3 xs
 have hlen:=hX.len;refine BEGz N 42 (λ_:Unit=>(mgL (xs.map (mgX K))).map (gI N)) () Tryz.func21 kx ?_;refine gO (tn 3 z) ?_;refine LP (n:=xs.length+1) (λn9 M S=>∃(v g h:Nat)(os:List AV)(out:List DInline),v<=xs.length/\os=out.map (gI N)/\out.length<=v/\out++mgL ((xs.map (mgX K)).drop v)=mgL (xs.map (mgX K))/\xs.length-v<n9/\M=()/\S=mgS N xs v g h os) kx ⟨0,0,0,[],[],by omega,rfl,by simp,rfl,by omega,rfl,rfl⟩ (WKf [(3,.own kG 0 10 [])] (ac (show([]:List AV)=[]/\0<43/\(0:Nat)=0 from⟨rfl,by decide,rfl⟩) an) kx) ?_;rintro n0 M S ⟨v,g,h,os,out,hv,ho,hol,hm,hF0,rfl,rfl⟩;obtain⟨n0,rfl⟩:∃ k,n0=k+1:=⟨n0-1,by omega⟩
 have hos:os.length=out.length:=by rw[ho,Zs]
 by_cases h1:v<xs.length
 ·have hd:decide (((v:Nat):Int)<((lenM Va3 xs:Nat):Int))=true:=dT kv
  have hev:=Vb1 xs v h1
  have hxm:el xs v∈xs:=Vcp (l:=xs) (i:=v) h1;obtain⟨q2,q3,q4,q5⟩:=hX.one _ hxm
  have hIv:=hI _ hxm
  have hdr:=mgx_el K xs v h1
  by_cases h2:(el xs v).fKind=1
  ·-- a run of texts
   have hk:(((el xs v).fKind:Int) !=1)=false:=by rw[h2];rfl
   refine gO (tn 4 (kb hd (tn 2 (ke hev (tn 3 (kb hk (tn 2 z))))))) ?_;refine RT [(6,0,.son 6),(6,1,.own KBb h 1 (Va8 ⟨#[]⟩))] (ac (show(AV.val (.pointer none))=.val (.pointer none)from rfl) (ac (show(Va8 ⟨#[]⟩:List AV)=[]/\0<6/\h=h from⟨rfl,by decide,rfl⟩) an)) kx ?_;refine LP (n:=xs.length+1) (λn9 M S=>∃(j h:Nat)(f:Int)(t:ByteArray),v<=j/\j<=xs.length/\(∀k,v<=k->k<j->(el xs k).fKind=1)/\t=catT ((xs.drop v).take (j-v))/\f=(if j=v then -1 else((v:Nat):Int))/\xs.length-j<n9/\M=()/\S=mgT N xs j g h os f t) kx ⟨v,h, -1,⟨#[]⟩,by omega,by omega,λk _ _=>by omega,by simp[catT],by simp,by omega,rfl,rfl⟩ (WK kx) ?_;rintro n1 M S ⟨j,h,f,t,hj,hj2,hall,ht,hf,hF1,rfl,rfl⟩;obtain⟨n1,rfl⟩:∃ k,n1=k+1:=⟨n1-1,by omega⟩
   have htz:t.size+(catT (xs.drop j)).size<=1073741824:=by
    have e1:=catT_le ((xs.drop v).take (j-v)) ((xs.drop v).drop (j-v));rw[Zx,List.drop_drop]at e1
    have e2:=catT_le (xs.take v) (xs.drop v);rw[Zx]at e2
    have:=hX.tot;rw[ht];rw[show v+(j-v)=j by omega]at e1;omega
   by_cases h3:j<xs.length/\(el xs j).fKind=1
   ·obtain⟨h3,h4⟩:=h3
    have hdj:decide (((j:Nat):Int)<((lenM Va3 xs:Nat):Int))=true:=dT kv
    have hej:=Vb1 xs j h3
    have hc1:cond (decide (((j:Nat):Int)<((lenM Va3 xs:Nat):Int))) (((el xs j).fKind:Int)==1) false=true:=by rw[hdj,h4];rfl
    obtain⟨p2,p3,p4,p5⟩:=hX.one _ (Vcp (l:=xs) (i:=j) h3)
    have hdj2:xs.drop j=el xs j::xs.drop (j+1):=by
     rw[Zr h3];simp[el,h3]
    have hsz:t.size+(el xs j).fText.size<=3000000000:=by
     rw[hdj2]at htz;simp only[catT,Zq]at htz;omega
    have hcw:Va2 Tryz.prog 43 [.ptr 6 0,jS (el xs j).fText] [(6,.cells 80 [.son 6,.own KBb h 1 (Va8 t)])] [(KBb,h)] (.av (.tup [.val (.int .i64 ((ByteArray.size (el xs j).fText:Nat):Int)),.val .nilIface])) [(6,.cells 80 [.son 6,.own KBb (h+1) 1 (Va8 (t++(el xs j).fText))])] [(KBb,h+1)]:=Vcq kx (Vaa (Vaf (6,0) (1000,0) rfl) (Vlt t (el xs j).fText h hsz))
    have hwr:=wrE (((j:Nat):Int)+1) ((j+1:Nat):Int) kv
    have htn:t++(el xs j).fText=catT ((xs.drop v).take (j+1-v)):=by
     rw[ht, <-catT_snoc];congr 1;rw[show j+1-v=(j-v)+1 by omega,List.take_succ_eq_append_getElem (by rw[List.length_drop];omega)];congr 1;simp[el,h3,show v+(j-v)=j by omega]
    have hall2:∀ k,v<=k->k<j+1->(el xs k).fKind=1:=λk hk1 hk2=>by
     by_cases e:k=j
     ·rw[e];exact h4
     ·exact hall k hk1 kv
    by_cases h5:j=v
    ·have hf1:decide (f<0)=true:=dT (by rw[hf,if_pos h5];decide)
     have hc2:cond (decide (f<0)) (!eqs (el xs j).fText ⟨#[]⟩) false=true:=by
      rw[hf1]
      have:=p5 h4;cases hb:eqs (el xs j).fText ⟨#[]⟩with
      |false=>rfl
      |true=>
       have:=eqs_sz hb;omega
     refine gO (tn 5 (kj (decide (((j:Nat):Int)<((lenM Va3 xs:Nat):Int))) (tn 2 (he (λ_=>hej) (tn 3 z))) z (kb hc1 (tn 3 (kj (decide (f<0)) (tn 2 (he (λ_=>hej) (tn 3 z))) z (kb hc2 (tn 4 (ke hej (tn 2 (kg hcw (show h=h/\True from⟨rfl,trivial⟩) (tn 1 (kn hwr (tn 1 z))))))))))))) ?_;exact AG (m:=n1) ⟨j+1,h+1,((j:Nat):Int),_,by omega,by omega,hall2,htn,by rw[if_neg kv,h5],by omega,rfl,rfl⟩ (WK kx) kx (Zb _)
    ·have hf1:decide (f<0)=false:=dF (by rw[hf,if_neg h5];omega)
     have hc2:cond (decide (f<0)) (!eqs (el xs j).fText ⟨#[]⟩) false=false:=by rw[hf1];rfl
     refine gO (tn 5 (kj (decide (((j:Nat):Int)<((lenM Va3 xs:Nat):Int))) (tn 2 (he (λ_=>hej) (tn 3 z))) z (kb hc1 (tn 3 (kj (decide (f<0)) (tn 2 (he (λ_=>hej) (tn 3 z))) z (kb hc2 (tn 2 (ke hej (tn 2 (kg hcw (show h=h/\True from⟨rfl,trivial⟩) (tn 1 (kn hwr (tn 1 z))))))))))))) ?_;exact AG (m:=n1) ⟨j+1,h+1,f,_,by omega,by omega,hall2,htn,by rw[hf,if_neg h5,if_neg kv],by omega,rfl,rfl⟩ (WK kx) kx (Zb _)
   ·have hc1:cond (decide (((j:Nat):Int)<((lenM Va3 xs:Nat):Int))) (((el xs j).fKind:Int)==1) false=false:=by
     by_cases h4:j<xs.length
     ·rw[dT kv];exact beq_false_of_ne (λe=>h3 ⟨h4,e⟩)
     ·rw[dF kv];rfl
    have hjv:j≠v:=λe=>h3 ⟨by omega,by rw[e];exact h2⟩
    have hf2:f=((v:Nat):Int):=by rw[hf,if_neg hjv]
    subst hf2
    have hf3:decide (((v:Nat):Int)>=0)=true:=dT kv
    have hdx:xs.drop v=el xs v::xs.drop (v+1):=by
     rw[Zr h1];simp[el,h1]
    have htp:0<t.size:=by
     rw[ht,hdx,show j-v=(j-v-1)+1 by omega,List.take_succ_cons];simp only[catT,Zq]
     have:=q5 h2;omega
    have hcs:Va2 Tryz.prog 38 [.ptr 6 0] [(6,.cells 80 [.son 6,.own KBb h 1 (Va8 t)])] [(KBb,h)] (.av (.val (.string t))) [(6,.cells 80 [.son 6,.av (.sl (Va8 t))])] [(KBb,h+1)]:=Vcq kx (Vaa (Vaf (6,0) (1000,0) rfl) (Vlb (.son 1000) 1300 h t htp kv))
    have hyy:=mg_run2 (xs.map (mgX K)) v j kv (by rw[Zs];exact hj2) (λk k1 k2=>by rw[el_mgX K xs k kv];exact hall k k1 k2) (λe=>h3 (by
     obtain⟨e1,e2⟩:=e;rw[Zs]at e1;rw[el_mgX K xs j e1]at e2
     exact⟨e1,e2⟩))
    rw[el_mgX K xs v h1, <-List.map_drop, <-List.map_take,mg_runX, <-ht, <-List.map_drop]at hyy;rw[<-List.map_drop]at hm
    have hun:Uni 10 [gI N {mgX K (el xs v)with fText:=t}]:=by rw[gI_eq];exact uniG N _ _
    have hap:g=g/\Uni 10 [gI N {mgX K (el xs v)with fText:=t}]/\(os.length+1)*192<=140737488355328:=⟨rfl,hun,by omega⟩
    refine gO (tn 5 (kj (decide (((j:Nat):Int)<((lenM Va3 xs:Nat):Int))) (tn 2 (he (λh=>Vb1 xs j (by have:=of_decide_eq_true h.2;omega)) (tn 3 z))) z (kb hc1 z))) ?_;refine OUT (tn 2 (kb hf3 (tn 2 (ke hev (tn 1 (kg hIv trivial (tn 2 (kg hcs (show h=h/\True from⟨rfl,trivial⟩) (tn 4 (kp hun (kp hap (kw (gos_push N ho {mgX K (el xs v)with fText:=t}) (tn 1 z))))))))))))) kx ?_;exact AG (m:=n0) ⟨j,g+1,h+1,(out++[{mgX K (el xs v)with fText:=t}]).map (gI N),out++[{mgX K (el xs v)with fText:=t}],hj2,rfl,by simp;omega,by rw[Zo,Zy, <-List.map_drop, <-hyy];exact hm,by omega,rfl,rfl⟩ (WK kx) kx (Zb _)
  ·-- no text
   have hk:(((el xs v).fKind:Int) !=1)=true:=by rw[bne_iff_ne];exact h2
   have hwr:=wrE (((v:Nat):Int)+1) ((v+1:Nat):Int) kv
   have hGe:=gI_eq N (mgX K (el xs v));refine gO (tn 4 (kb hd (tn 2 (ke hev (tn 3 (kb hk (tn 3 (ke hev (tn 1 (kg hIv trivial (kp (show Uni 10 [gI N (mgX K (el xs v))]from by rw[hGe];exact uniG N _ _) (kp (show g=g/\Uni 10 [gI N (mgX K (el xs v))]/\(os.length+1)*192<=140737488355328 from⟨rfl,by rw[hGe];exact uniG N _ _,by omega⟩) (kw (gos_push N ho (mgX K (el xs v))) (tn 2 (kn hwr (tn 1 z)))))))))))))))) ?_;exact AG (m:=n0) ⟨v+1,g+1,h,(out++[mgX K (el xs v)]).map (gI N),out++[mgX K (el xs v)],by omega,rfl,by simp;omega,by rw[Zo,Zy, <-hm,hdr];congr 1;exact(mgc_n (by exact h2)).symm,by omega,rfl,rfl⟩ (WK kx) kx (Zb _)
 ·have hd:decide (((v:Nat):Int)<((lenM Va3 xs:Nat):Int))=false:=dF kv
  have hm2:out=mgL (xs.map (mgX K)):=by
   rw[List.drop_eq_nil_of_le (by rw[Zs];omega)]at hm;simpa[mgL]using hm
  subst ho;rw[hm2];refine gO (tn 4 (kb hd z)) ?_;refine OUT (tn 2 z) kx ?_;exact ENz 1500 (k:=kG) (g:=g) (sz:=10) kx kx rfl kx (by simp[gxB]) kx kx
end Go.Proofs.YthbpjmogdonlkaaGreatDoor
set_option maxRecDepth 100000
namespace Go.Proofs.YthbpjmogdonlkaaGreatDoor
open Go Go.Eng
mutual
def mgI:DInline->DInline
 |⟨y0,y1,y2,y3,y4,y5,y6,y7⟩=>⟨y0,y1,y2,y3,y4,y5,y6,mgL (mgIs y7)⟩
def mgIs:List DInline->List DInline
 |[]=>[]
 |x::l=>mgI x::mgIs l
end
theorem mgIs_map:∀ l,mgIs l=l.map mgI
 |[]=>rfl
 |x::l=>by rw[mgIs,mgIs_map l];rfl
def mgD(l:List DInline):List DInline:=mgL (l.map mgI)
theorem mgI_eq(x:DInline):mgI x=mgX mgD x:=by cases x;simp only[mgI,mgX,mgD,mgIs_map]
theorem mgD_eq(l:List DInline):mgD l=mgL (l.map (mgX mgD)):=by
 unfold mgD;congr 1;exact List.map_congr_left (λx _=>mgI_eq x)
mutual
def OkI:DInline->Prop
 |⟨y0,y1,y2,y3,y4,y5,y6,y7⟩=>(Vgw y4<=1073741824/\y5.length<=1073741824/\y6.length<=1073741824/\(y0=1->0<y1.size))/\y7.length<=1073741824/\(catT y7).size<=1073741824/\OkIs y7
def OkIs:List DInline->Prop
 |[]=>True
 |x::l=>OkI x/\OkIs l
end
theorem Vjk:∀ {l:List DInline},OkIs l->∀ x∈l,OkI x
 |[],_,x,hx=>by cases hx
 |y::l,h,x,hx=>by
  rw[OkIs]at h;rcases Za.1 hx with rfl|hx
  ·exact h.1
  ·exact Vjk h.2 x hx
theorem OkI_one{x:DInline}(h:OkI x):Vgw x.fAttr<=1073741824/\x.fArgs.length<=1073741824/\x.fCites.length<=1073741824/\(x.fKind=1->0<x.fText.size):=by
 cases x;rw[OkI]at h;exact h.1
theorem OkI_kids{x:DInline}(h:OkI x):MgO x.fKids/\OkIs x.fKids:=by
 cases x;rw[OkI]at h;exact⟨⟨h.2.1,h.2.2.1,λy hy=>OkI_one (Vjk h.2.2.2 y hy)⟩,h.2.2.2⟩
theorem Vpm(x:DInline)(y:DInline)(hy:y∈x.fKids):SizeOf.sizeOf y<SizeOf.sizeOf x:=by
 cases x
 have:=List.sizeOf_lt_of_mem hy;simp only[DInline.mk.sizeOf_spec];simp only at this;omega
theorem mgdI_to(N:Nat):∀(n:Nat)(x:DInline),SizeOf.sizeOf x<n->OkI x->Va2 Tryz.prog 42 [.av (Vap x)] (gxB N) [] (.av (gI N (mgX mgD x))) (gxB N) []:=by
 intro n
 induction n with
 |zero=>intro x h;omega
 |succ n ih=>
  intro x hs hx;obtain⟨h1,h2,h3,h4⟩:=OkI_one hx;obtain⟨k1,k2⟩:=OkI_kids hx
  have hm:=mg_to N mgD x.fKids k1 (λy hy=>ih y (by have:=Vpm x y hy;omega) (Vjk k2 y hy));rw[<-mgD_eq]at hm
  have:=mgI_to N x _ h1 h2 h3 hm;rw[gI_eq];exact this
theorem mgd_to(N:Nat)(xs:List DInline)(h1:MgO xs)(h2:OkIs xs):Va2 Tryz.prog 21 [jL (xs.map Va3)] (gxB N) [] (.av (.fs N 42 ((mgD xs).map (gI N)))) (gxB N) []:=by
 have:=mg_to N mgD xs h1 (λy hy=>mgdI_to N (SizeOf.sizeOf y+1) y kv (Vjk h2 y hy));rwa[<-mgD_eq]at this
def nsX(ps:List DPiece):List DInline:=btM ps (mtR ps ps.length).els 0 (mtR ps ps.length).els.length (nx (mtR ps ps.length).els 0)
def nsB(N:Nat)(ps:List DPiece):List (Nat×ABox):=esM ps (mtR ps ps.length)++gxB N
theorem nsw_to(ps:List DPiece)(hn:ps.length<=2048):Va2 Tryz.prog 148 [.ptr 14 0,jI 0,jI 0] (esM ps (mtR ps ps.length)) [] (jL ((nsX ps).map Va3)) (esM ps (mtR ps ps.length)) []:=by
 obtain⟨h1,h2,h3⟩:=mtR_bt ps hn;exact Vcq kx (Vaa (Vaf (14,0) (1000,0) rfl) (Vaa (Vaf (12,0) (2001,0) rfl) (bw_to ps (mtR ps ps.length).els (mtR ps ps.length).O (mtR ps ps.length).prs 0 0 (mtR ps ps.length).els.length ⟨Int.le_refl _,by omega⟩ h1 kv)))
def nsS(N:Nat)(ps:List DPiece):St:=sx 9 [(3,.ptr 14 0)] (nsB N ps) []
theorem ns1(N:Nat)(ps:List DPiece)(hn:ps.length<=2048):W Tryz.prog (.region 1 (Va7 1 Tryz.f94) false) (λe S1=>e=.normal/\Weak S1 (nsS N ps)) (sx 9 [(0,jL (ps.map Vb4))] (gxB N) []):=by
 refine Van ?_;rw[show(Va7 1 Tryz.f94).toList=[regO 1 Tryz.f94 0,regO 1 Tryz.f94 1,regO 1 Tryz.f94 2] by kernel_rfl];refine Var (jL (ps.map Vb4)) 4 kx kx ?_;refine WO_new (nb:=esM ps (mtR ps ps.length)) (res:=.ptr 14 0) (f:=147) (x:=.func 147) (args:=#[.tmp 4]) (tys:=#[62]) (fs:=[]) (cs:=[]) 5 kx kx rfl (Vcq kx (mtc_to ps kv (λv hv=>mtR_ok ps hn v hv))) kx kx ?_;refine Var (.ptr 14 0) 3 kx kx ?_;exact Vbk rfl ⟨rfl,WK kx⟩
theorem nsG_to(N:Nat)(ps:List DPiece)(hn:ps.length<=2048)(h1:MgO (nsX ps))(h2:OkIs (nsX ps)):Va2 Tryz.prog 94 [jL (ps.map Vb4)] (gxB N) [] (.av (.fs N 42 ((mgD (nsX ps)).map (gI N)))) (gxB N) []:=by
 have hc:=nsw_to ps hn
 have hm:=mgd_to N (nsX ps) h1 h2;refine bGs Tryz.func94 ?_;refine gO (tn 1 (kq 1 z)) ?_;refine NXW (nsS N ps) (tn 1 (kg hc trivial (kg hm trivial (tn 1 z)))) kx ?_ kx ?_
 ·refine Vai (S':=sx 9 [(0,jL (ps.map Vb4))] (gxB N) []) (WK kx) ?_;exact Val (c':=.region 1 (Va7 1 Tryz.f94) false) kx (ns1 N ps hn)
 exact eNs
end Go.Proofs.YthbpjmogdonlkaaGreatDoor
namespace Go.Proofs.YthbpjmogdonlkaaGreatDoor
open Go Go.Eng Go.RowKit
def itoa(k:Nat):ByteArray:=⟨(Lib.decDigits k).toArray⟩
theorem argsI{G:Gh}{w:World}{c:Int}{us:List Value}(h:RepSs G w [jI c] us):us.toArray=#[.int .i64 c]:=by
 obtain⟨u,l,rfl,h1,h2⟩:=h
 have h3:l=[]:=h2;subst h3;rw[h1.1]
end Go.Proofs.YthbpjmogdonlkaaGreatDoor
set_option maxRecDepth 100000
namespace Go.Proofs.YthbpjmogdonlkaaGreatDoor
open Go Go.Eng
mutual
def AllI(p:DInline->Prop):DInline->Prop
 |⟨y0,y1,y2,y3,y4,y5,y6,y7⟩=>p ⟨y0,y1,y2,y3,y4,y5,y6,y7⟩/\AllIs p y7
def AllIs(p:DInline->Prop):List DInline->Prop
 |[]=>True
 |x::l=>AllI p x/\AllIs p l
end
theorem Vqs{p:DInline->Prop}:∀ {l:List DInline},AllIs p l ↔ ∀x∈l,AllI p x
 |[]=>by simp[AllIs]
 |y::l=>by rw[AllIs,Vqs (l:=l)];simp
theorem Vaj{p:DInline->Prop}{x:DInline}:AllI p x ↔ p x/\∀ y∈x.fKids,AllI p y:=by cases x;rw[AllI,Vqs]
theorem Vck{p:DInline->Prop}(h:∀ x,(∀y∈x.fKids,p y)->p x):∀ x,p x:=by
 have:∀ n x,SizeOf.sizeOf x<n->p x:=by
  intro n
  induction n with
  |zero=>intro x h;omega
  |succ n ih=>exact λx hx=>h x (λy hy=>ih y (by have:=Vpm x y hy;omega))
 exact λx=>this _ x (Zb _)
theorem mgL_all{p:DInline->Prop}(hp:∀ x y,x.fKind=1->y.fKind=1->p x->p y->p {x with fText:=x.fText++y.fText}):∀ l:List DInline,(∀x∈l,AllI p x)->∀ x∈mgL l,AllI p x
 |[],_,x,hx=>by cases hx
 | a::l,h,x,hx=>by
  have ha:=h a ku
  have ih:=mgL_all hp l (λy hy=>h y (by simp[hy]))
  have hx:x∈mgc a (mgL l):=hx;cases hm:mgL l with
  |nil=>
   rw[hm]at hx
   have:x=a:=by simpa[mgc]using hx
   rw[this];exact ha
  | cons b q=>
   rw[hm]at hx ih;unfold mgc at hx;simp only at hx
   split at hx
   ·rename_i hk;rcases Za.1 hx with rfl|hx
    ·have hb:=ih b ku;rw[Vaj]at ha hb ⊢;exact⟨hp _ _ hk.1 hk.2 ha.1 hb.1,ha.2⟩
    ·exact ih x (by simp[hx])
   ·rcases Za.1 hx with rfl|hx
    ·exact ha
    ·exact ih x hx
theorem mgI_all{p:DInline->Prop}(hp:∀ x y,x.fKind=1->y.fKind=1->p x->p y->p {x with fText:=x.fText++y.fText})(hk:∀ x,p x->p (mgX mgD x)):∀ x,AllI p x->AllI p (mgI x):=Vck λx ih hx=>by
 rw[mgI_eq];rw[Vaj]at hx ⊢;refine⟨hk _ hx.1,λy hy=>?_⟩;refine mgL_all hp (x.fKids.map mgI) (λy hy=>?_) y hy;obtain⟨w,hw,rfl⟩:=Zt.1 hy;exact ih w hw (hx.2 w hw)
theorem mgD_all{p:DInline->Prop}(hp:∀ x y,x.fKind=1->y.fKind=1->p x->p y->p {x with fText:=x.fText++y.fText})(hk:∀ x,p x->p (mgX mgD x))(l:List DInline)(h:∀ x∈l,AllI p x):∀ x∈mgD l,AllI p x:=by
 refine mgL_all hp (l.map mgI) (λy hy=>?_);obtain⟨w,hw,rfl⟩:=Zt.1 hy;exact mgI_all hp hk w (h w hw)
def itoN(t:ByteArray):Nat:=((Lib.atoi t.data.toList).getD 0).toNat
section
variable (V:Nat->DInline)
mutual
def rsT:DInline->DInline
 |⟨y0,y1,y2,y3,y4,y5,y6,y7⟩=>cond (y0== -1) (V (itoN y1)) ⟨y0,y1,y2,y3,y4,y5,y6,rsTs y7⟩
def rsTs:List DInline->List DInline
 |[]=>[]
 |x::l=>rsT x::rsTs l
end
theorem rsTs_map:∀ l,rsTs V l=l.map (rsT V)
 |[]=>rfl
 |x::l=>by rw[rsTs,rsTs_map l];rfl
theorem rsT_eq(x:DInline):rsT V x=cond (x.fKind== -1) (V (itoN x.fText)) {x with fKids:=x.fKids.map (rsT V)}:=by cases x;rw[rsT,rsTs_map]
theorem rsT_p{x:DInline}(h:x.fKind= -1):rsT V x=V (itoN x.fText):=by rw[rsT_eq,h];rfl
theorem rsT_n{x:DInline}(h:x.fKind≠ -1):rsT V x={x with fKids:=x.fKids.map (rsT V)}:=by rw[rsT_eq,beq_false_of_ne h];rfl
def wT(x:DInline):Nat:=Va4 (rsT V x)
def wT'(l:List DInline):Nat:=(l.map (wT V)).sum
theorem wl_sum{α:Type}(f:α->Nat)(l:List α):wl f l=(l.map f).sum:=by
 induction l with
 |nil=>rfl
 |cons x l ih=>simp[wl,ih]
theorem Vf7{x:DInline}(h:x.fKind≠ -1):wT V x=Va4 {x with fKids:=[]}+wT' V x.fKids:=by
 have e:wl Va4 (x.fKids.map (rsT V))=wT' V x.fKids:=by rw[wl_sum,List.map_map];rfl
 have e0:wl Va4 []=0:=rfl;unfold wT;rw[rsT_n V h,Vav,Vav];simp only[e,e0];omega
theorem wt_app(s t:ByteArray):wStr (s++t)+1=wStr s+wStr t:=by unfold wStr;rw[Zq];omega
theorem mgL_wT:∀ l:List DInline,wT' V (mgL l)<=wT' V l
 |[]=>Nat.le_refl _
 | a::l=>by
  have ih:=mgL_wT l
  have e:wT' V (a::l)=wT V a+wT' V l:=by simp[wT']
  rw[e]
  show wT' V (mgc a (mgL l))<=_;cases hm:mgL l with
  |nil=>simp[mgc,wT']
  | cons b q=>
   rw[hm]at ih
   have e2:wT' V (b::q)=wT V b+wT' V q:=by simp[wT']
   unfold mgc;simp only
   split
   ·rename_i hk
    have e3:wT' V ({a with fText:=a.fText++b.fText}::q)=wT V {a with fText:=a.fText++b.fText}+wT' V q:=by simp[wT']
    have h1:=Vf7 V (x:=a) (by rw[hk.1];decide)
    have h2:=Vf7 V (x:=b) (by rw[hk.2];decide)
    have h3:=Vf7 V (x:={a with fText:=a.fText++b.fText}) (by show a.fKind≠ -1;rw[hk.1];decide)
    have h4:=wt_app a.fText b.fText;rw[Vav]at h1 h2 h3;simp only at h1 h2 h3;rw[e3];omega
   ·have e3:wT' V (a::b::q)=wT V a+(wT V b+wT' V q):=by simp[wT']
    rw[e3];omega
theorem wT'_le{f:DInline->DInline}{l:List DInline}(h:∀ x∈l,wT V (f x)<=wT V x):wT' V (l.map f)<=wT' V l:=by
 unfold wT';rw[List.map_map];exact sum_le h
theorem mgI_wT:∀ x,wT V (mgI x)<=wT V x:=Vck λx ih=>by
 rw[mgI_eq]
 by_cases hk:x.fKind= -1
 ·unfold wT;rw[rsT_p V hk,rsT_p V (x:=mgX mgD x) hk];exact Nat.le_refl _
 ·rw[Vf7 V hk,Vf7 V (x:=mgX mgD x) hk]
  have h1:=mgL_wT V (x.fKids.map mgI)
  have h2:=wT'_le V ih
  have e:Va4 {mgX mgD x with fKids:=[]}=Va4 {x with fKids:=[]}:=rfl
  have e2:(mgX mgD x).fKids=mgL (x.fKids.map mgI):=rfl;rw[e,e2];omega
theorem mgD_wT(l:List DInline):wT' V (mgD l)<=wT' V l:=Nat.le_trans (mgL_wT V _) (wT'_le V (λx _=>mgI_wT V x))
theorem wI0(k:Int)(t:ByteArray):Va4 (DInline.mk k t ⟨#[]⟩ ⟨#[]⟩ ⟨⟨#[]⟩,[],[]⟩ [] [] [])=t.size+7:=by
 rw[Vav,Vfy];simp only[wl,w1,wStr,show ByteArray.size (⟨#[]⟩:ByteArray)=0 from rfl];omega
def PTw(p:DInline->Prop)(h1:∀ t,0<t.size->p (txI t))(h2:∀ k l,(k=6\/k=7\/k=8)->p (prI k l)):PT where
 f:=wT V
 P:=AllI p
 ft:=λt=>by
  have h:=Vf7 V (x:=txI t) (by show(1:Int)≠ -1;decide);rw[h,show Va4 {txI t with fKids:=[]}=t.size+7 from wI0 1 t,show wT' V (txI t).fKids=0 from rfl];omega
 fk:=λk l hk=>by
  have h:=Vf7 V (x:=prI k l) (by show k≠ -1;omega);rw[h,show Va4 {prI k l with fKids:=[]}=ByteArray.size (⟨#[]⟩:ByteArray)+7 from wI0 k ⟨#[]⟩,show ByteArray.size (⟨#[]⟩:ByteArray)=0 from rfl]
  show 0+7+wT' V l<=_;unfold wT';omega
 pt:=λt ht=>Vaj.2 ⟨h1 t ht,λy hy=>by cases hy⟩
 pk:=λk l hk hl=>Vaj.2 ⟨h2 k l hk,hl⟩
end
def PTi(p:DInline->Prop)(h1:∀ t,0<t.size->p (txI t))(h2:∀ k l,(k=6\/k=7\/k=8)->p (prI k l)):PT where
 f:=Va4
 P:=AllI p
 ft:=λt=>by rw[show Va4 (txI t)=t.size+7 from wI0 1 t];omega
 fk:=λk l hk=>by
  have h:Va4 (prI k l)=Va4 (prI k [])+wl Va4 l:=by
   rw[Vav,Vav];simp only[prI,show wl Va4 []=0 from rfl];omega
  rw[h,show Va4 (prI k [])=ByteArray.size (⟨#[]⟩:ByteArray)+7 from wI0 k ⟨#[]⟩,show ByteArray.size (⟨#[]⟩:ByteArray)=0 from rfl,wl_sum];omega
 pt:=λt ht=>Vaj.2 ⟨h1 t ht,λy hy=>by cases hy⟩
 pk:=λk l hk hl=>Vaj.2 ⟨h2 k l hk,hl⟩
end Go.Proofs.YthbpjmogdonlkaaGreatDoor
namespace Go.Proofs.YthbpjmogdonlkaaGreatDoor
open Go Go.Eng Go.RowKit
theorem Vo1:∀ k,k<2048->Lib.atoi (Lib.decDigits k)=some ((k:Nat):Int)/\(Lib.decDigits k).length<=18:=by
 have:(Zz 2048).all (λk=>decide (Lib.atoi (Lib.decDigits k)=some ((k:Nat):Int))&&decide ((Lib.decDigits k).length<=18))=true:=by kernel_rfl
 intro k hk
 have:=Zn.1 this k (List.mem_range.2 hk);simpa using this
theorem Vbs{k:Nat}(h:k<2048):itoN (itoa k)=k:=by
 unfold itoN;rw[show(itoa k).data.toList=Lib.decDigits k from rfl,(Vo1 k h).1];rfl
theorem itoa_inj{k j:Nat}(hk:k<2048)(hj:j<2048)(h:itoa k=itoa j):k=j:=by rw[<-Vbs hk, <-Vbs hj,h]
theorem atoi_raw(k:Nat)(h:k<2048)(w:World):Calls Tryz.prog 149 #[.string (itoa k)] w λe w'=>e=.returned (.tuple #[.int .i64 ((k:Nat):Int),.nilIface])/\Below w.heap.size w w':=by
 obtain⟨h1,h2⟩:=Vo1 k h
 have e:(itoa k).data.toList=Lib.decDigits k:=rfl
 have hz:(itoa k).size=(Lib.decDigits k).length:=by rw[Lib.size_eq,e]
 refine(Any.strconv_Atoi Tryz.lays172 (itoa k) ((k:Nat):Int) kv (by rw[e];exact h1) w).mono ?_;rintro e w' ⟨he,t,hw⟩;exact⟨he,by rw[hw];exact Lib.bytesWorld_below _ _ _⟩
def Cln(l:List DInline):Prop:=∀ x∈l,AllI (λy=>y.fKind≠ -1) x
theorem Vjm{x:DInline}:wl Va4 x.fKids<=Va4 x:=by rw[Vav];omega
theorem rstC_to:∀(n:Nat)(l:List DInline),SizeOf.sizeOf l<n->Cln l->wl Va4 l<=1073741824->Va2 Tryz.prog 95 [jL (l.map Va3),.junk] [] [] Vas [] []:=by
 intro n
 induction n with
 |zero=>intro l h;omega
 | succ n ih=>
  intro l hn hc hw
  have hlq:=Va6 Va3 l
  have hl:=Vd8 (w:=Va4) Vb5 l;refine bGs Tryz.func95 ?_;refine gO (tn 3 z) ?_;refine LP (n:=l.length+1) (λN M S=>∃(v:Nat),v<=l.length/\l.length-v<N/\M=()/\S=sx 46 [(0,jL (l.map Va3)),(8,jI ((lenM Va3 l:Nat):Int)),(9,jI ((v:Nat):Int))] [] []) kx ⟨0,by omega,by omega,rfl,rfl⟩ (WK kx) ?_;rintro n0 M S ⟨v,hv,hF0,rfl,rfl⟩;obtain⟨n0,rfl⟩:∃ k,n0=k+1:=⟨n0-1,by omega⟩
  by_cases h1:v<l.length
  ·have hd:decide (((v:Nat):Int)<((lenM Va3 l:Nat):Int))=true:=dT kv
   have hx:=Vcp (l:=l) (i:=v) h1
   have ha:=Vaj.1 (hc _ hx)
   have hq:((el l v).fKind != -1)=true:=by rw[bne_iff_ne];exact ha.1
   have he:=Vb1 l v h1
   have hwr:=wrE (((v:Nat):Int)+1) ((v+1:Nat):Int) kv
   have hs1:=List.sizeOf_lt_of_mem hx
   have hs2:SizeOf.sizeOf (el l v).fKids<SizeOf.sizeOf (el l v):=by
    cases(el l v);simp only[DInline.mk.sizeOf_spec];omega
   have hr:=ih (el l v).fKids kv ha.2 (by have:=Vip (w:=Va4) hx;have:=Vjm (x:=el l v);omega);refine gO (tn 1 (kb hd (tn 4 (ke he (tn 3 (kb hq (tn 2 (ke he (tn 3 (kc hr (kn hwr (tn 1 z)))))))))))) ?_;exact AG (m:=n0) (S'':=sx 46 [(0,jL (l.map Va3)),(8,jI ((lenM Va3 l:Nat):Int)),(9,jI ((v+1:Nat):Int))] [] []) ⟨v+1,by omega,by omega,rfl,rfl⟩ (WK kx) kx (Zb _)
  ·have hd:decide (((v:Nat):Int)<((lenM Va3 l:Nat):Int))=false:=dF kv;refine gO (tn 1 (kb hd z)) ?_;refine OUT z kx ?_;exact eNs
end Go.Proofs.YthbpjmogdonlkaaGreatDoor
set_option maxRecDepth 100000
namespace Go.Proofs.YthbpjmogdonlkaaGreatDoor
open Go Go.Eng
def phI(k:Nat):DInline:=DInline.mk (-1) (itoa k) ⟨#[]⟩ ⟨#[]⟩ ⟨⟨#[]⟩,[],[]⟩ [] [] []
def pIn(p:DPiece)(x:DInline):DPiece:={p with fInline:=x}
def isPh(e:DElem):Bool:=cond ((e.fkind:Int)==0) (decide (((e.fpiece.fInline.fKids.length:Nat):Int)>0)) false
def pcG(k:Nat)(e:DElem):DPiece:=cond (isPh e) (pIn e.fpiece (phI k)) e.fpiece
def pcsG(els:List DElem)(o n:Nat):List DPiece:=(Zz n).map (λv=>pcG v (el els (o+v)))
theorem Vp6(els:List DElem)(o n:Nat):pcsG els o (n+1)=pcsG els o n++[pcG n (el els (o+n))]:=by simp[pcsG,List.range_succ]
theorem Vjd(els:List DElem)(o n:Nat):(pcsG els o n).length=n:=by simp[pcsG]
theorem pcsG_el(els:List DElem)(o n v:Nat)(h:v<n):el (pcsG els o n) v=pcG v (el els (o+v)):=by simp[el,pcsG,h]
def VE(els:List DElem)(o k:Nat):DInline:=(el els (o+k)).fpiece.fInline
def nstG(els:List DElem)(o m:Nat):List DInline:=(mgD (nsX (pcsG els o m))).map (rsT (VE els o))
def wE(e:DElem):Nat:=cond (isrP e.fpiece) (20*e.fpiece.fN.toNat) (Va4 e.fpiece.fInline)
def ClnI(x:DInline):Prop:=AllI (λy=>y.fKind≠ -1) x
def wEs(els:List DElem)(o:Nat):Nat->Nat
 |0=>0
 |v+1=>wEs els o v+wE (el els (o+v))
structure NsG (els:List DElem) (o m:Nat):Prop where
 mm:m<=2048
 cl:∀ k,k<m->ClnI (VE els o k)
 kz:∀ k,k<m->(el els (o+k)).fkind≠0->(VE els o k).fKids=[]
 wt:wEs els o m<=1073000000
theorem isrP_pcG(k:Nat)(e:DElem):isrP (pcG k e)=isrP e.fpiece:=by unfold pcG;cases isPh e <;>rfl
theorem rsT_cln(V:Nat->DInline):∀ x,ClnI x->rsT V x=x:=Vck λx ih hx=>by
 have h:=Vaj.1 hx;rw[rsT_n V h.1]
 have:x.fKids.map (rsT V)=x.fKids:=by
  conv=>rhs;rw[<-List.map_id x.fKids]
  exact List.map_congr_left (λy hy=>ih y hy (h.2 y hy))
 rw[this];cases x;rfl
theorem OkIs_of:∀ {l:List DInline},(∀x∈l,OkI x)->OkIs l
 |[],_=>trivial
 |x::l,h=>⟨h x ku,OkIs_of (λy hy=>h y (by simp[hy]))⟩
def PhP(m:Nat)(x:DInline):Prop:=(x.fKind= -1->∃ k,k<m/\x.fText=itoa k)/\x.fKids.length<=1073741824
def PhX(m:Nat)(x:DInline):Prop:=(x.fKind= -1->(∃k,k<m/\x.fText=itoa k)/\x.fKids=[])/\(x.fKind=1->0<x.fText.size)
theorem PhX_t(m:Nat)(t:ByteArray)(h:0<t.size):PhX m (txI t):=⟨λe=>absurd e (by show(1:Int)≠ -1;decide),λ_=>h⟩
theorem PhX_k(m:Nat)(k:Int)(l:List DInline)(h:k=6\/k=7\/k=8):PhX m (prI k l):=⟨λe=>by have e:k= -1:=e;omega,λe=>by have e:k=1:=e;omega⟩
theorem PhX_m(m:Nat)(x y:DInline)(h1:x.fKind=1)(_:y.fKind=1)(hx:PhX m x)(_:PhX m y):PhX m {x with fText:=x.fText++y.fText}:=
 ⟨λe=>by have e:x.fKind= -1:=e;omega,λ_=>by have:=hx.2 h1;show 0<(x.fText++y.fText).size;rw[Zq];omega⟩
theorem PhX_g(m:Nat)(x:DInline)(hx:PhX m x):PhX m (mgX mgD x):=
 ⟨λe=>⟨(hx.1 e).1,by show mgD x.fKids=[];rw[(hx.1 e).2];rfl⟩,hx.2⟩
def tW(V:Nat->DInline)(m:Nat):PT:=PTw V (PhX m) (PhX_t m) (PhX_k m)
def tI(m:Nat):PT:=PTi (PhX m) (PhX_t m) (PhX_k m)
theorem wPh(k:Nat)(h:k<2048):Va4 (phI k)<=25:=by
 have h1:=(Vo1 k h).2
 have h2:(itoa k).size=(Lib.decDigits k).length:=by rw[Lib.size_eq];rfl
 rw[show Va4 (phI k)=(itoa k).size+7 from wI0 (-1) (itoa k)];omega
section
variable {els:List DElem} {o m:Nat}
theorem Vke(h:NsG els o m){v:Nat}(hv:v<m)(hp:isPh (el els (o+v))=false):(VE els o v).fKids=[]:=by
 by_cases hk:(el els (o+v)).fkind=0
 ·unfold isPh at hp;rw[hk]at hp
  have hp:decide ((((el els (o+v)).fpiece.fInline.fKids.length:Nat):Int)>0)=false:=hp
  have:=of_decide_eq_false hp;exact List.length_eq_zero_iff.1 (by show(el els (o+v)).fpiece.fInline.fKids.length=0;omega)
 ·exact h.kz v hv hk
theorem keep_x(h:NsG els o m){v:Nat}(hv:v<m)(hk:Vkm (pcG v (el els (o+v)))=true):AllI (PhX m) (pcG v (el els (o+v))).fInline:=by
 cases hp:isPh (el els (o+v))with
 |true=>
  have e:(pcG v (el els (o+v))).fInline=phI v:=by unfold pcG;rw[hp];rfl
  rw[e,Vaj];exact⟨⟨λ_=>⟨⟨v,hv,rfl⟩,rfl⟩,λe=>absurd e (by show(-1:Int)≠1;decide)⟩,λy hy=>by cases hy⟩
 | false=>
  have e:pcG v (el els (o+v))=(el els (o+v)).fpiece:=by unfold pcG;rw[hp];rfl
  rw[e]at hk ⊢
  have hc:=Vaj.1 (h.cl v hv)
  have hz:=Vke h hv hp
  have hc1:(el els (o+v)).fpiece.fInline.fKind≠ -1:=hc.1
  have hz1:(el els (o+v)).fpiece.fInline.fKids=[]:=hz;rw[Vaj,hz1];refine⟨⟨λe=>absurd e hc1,λe=>?_⟩,λy hy=>by cases hy⟩;unfold Vkm at hk;cases h0:(((el els (o+v)).fpiece.fKind:Int)==0)with
  |false=>rw[h0]at hk;cases hk
  |true=>
   rw[h0,e]at hk;exact size_neqs_t hk
theorem pp_w(h:NsG els o m){v:Nat}(hv:v<m):ppP (tW (VE els o) m) (pcG v (el els (o+v)))<=wE (el els (o+v))/\ppP (tI m) (pcG v (el els (o+v)))<=wE (el els (o+v))+25:=by
 have hm:=h.mm;unfold ppP wE;rw[isrP_pcG];cases isrP (el els (o+v)).fpiece with
 |true=>
  have e:(pcG v (el els (o+v))).fN=(el els (o+v)).fpiece.fN:=by unfold pcG;cases isPh (el els (o+v)) <;>rfl
  rw[e];exact⟨Nat.le_refl _,Nat.le_add_right _ _⟩
 | false=>
  simp only[cond_false];cases Vkm (pcG v (el els (o+v)))with
  |false=>exact⟨Nat.zero_le _,Nat.zero_le _⟩
  | true=>
   simp only[cond_true]
   show wT (VE els o) (pcG v (el els (o+v))).fInline<=Va4 (VE els o v)/\Va4 (pcG v (el els (o+v))).fInline<=Va4 (VE els o v)+25;cases hp:isPh (el els (o+v))with
   |true=>
    have e:(pcG v (el els (o+v))).fInline=phI v:=by unfold pcG;rw[hp];rfl
    rw[e]
    have h1:=wPh v kv;refine⟨?_,by omega⟩;unfold wT;rw[rsT_p (VE els o) (x:=phI v) rfl,show itoN (phI v).fText=v from Vbs kv];exact Nat.le_refl _
   |false=>
    have e:(pcG v (el els (o+v))).fInline=VE els o v:=by unfold pcG;rw[hp];rfl
    rw[e];refine⟨?_,Nat.le_add_right _ _⟩;unfold wT;rw[rsT_cln _ _ (h.cl v hv)];exact Nat.le_refl _
theorem pps_w(h:NsG els o m):∀ v,v<=m->ppS (tW (VE els o) m) (pcsG els o m) v<=wEs els o v/\ppS (tI m) (pcsG els o m) v<=wEs els o v+25*v
 |0,_=>⟨Nat.le_refl _,Nat.le_refl _⟩
 | v+1,hv=>by
  have ih:=pps_w h v kv
  have h1:=pp_w h (v:=v) kv
  have e:∀ T,ppS T (pcsG els o m) (v+1)=ppS T (pcsG els o m) v+ppP T (pcG v (el els (o+v))):=λT=>by
   show ppS T (pcsG els o m) v+ppP T (el (pcsG els o m) v)=_;rw[pcsG_el els o m v kv]
  rw[e,e]
  show _<=wEs els o v+wE (el els (o+v))/\_<=wEs els o v+wE (el els (o+v))+25*(v+1)
  omega
theorem nsX_w(h:NsG els o m):wT' (VE els o) (nsX (pcsG els o m))<=wEs els o m/\wl Va4 (nsX (pcsG els o m))<=1073741824/\∀ x∈nsX (pcsG els o m),AllI (PhX m) x:=by
 have hm:=h.mm
 have hl:=Vjd els o m
 have hP:∀(v:Nat),v<(pcsG els o m).length->isrP (el (pcsG els o m) v)=false->Vkm (el (pcsG els o m) v)=true->AllI (PhX m) (el (pcsG els o m) v).fInline:=λv hv _ hk=>by
  rw[pcsG_el els o m v kv]at hk ⊢;exact keep_x h kv hk
 have h1:=mtR_pt (tW (VE els o) m) (pcsG els o m) kv hP
 have h2:=mtR_pt (tI m) (pcsG els o m) kv hP
 have h3:=pps_w h m (Nat.le_refl _)
 have h4:=h.wt;refine⟨Nat.le_trans h1.1 (by rw[hl];exact h3.1),?_,h1.2⟩;rw[wl_sum];refine Nat.le_trans h2.1 ?_;rw[hl];omega
theorem catT_wl:∀ l:List DInline,(catT l).size<=wl Va4 l
 |[]=>Nat.le_refl _
 |x::l=>by
  have:=catT_wl l
  show(x.fText++catT l).size<=Va4 x+wl Va4 l;rw[Zq,Vav,wStr];omega
theorem OkI_of:∀ x,AllI (PhX m) x->Va4 x<=1073741824->OkI x:=Vck λx ih hx hw=>by
 have h:=Vaj.1 hx
 have h2:=Vjm (x:=x)
 have h3:=catT_wl x.fKids
 have h4:=Vd8 (w:=Va4) Vb5 x.fKids
 have hk:OkIs x.fKids:=OkIs_of (λy hy=>ih y hy (h.2 y hy) (by have:=Vip (w:=Va4) hy;omega));rw[Vav]at hw
 have h5:=Vd8 (w:=wStr) (λ_=>Nat.succ_pos _) x.fArgs
 have h6:=Vd8 (w:=Vdn) wCited_pos x.fCites;cases x;rw[OkI];simp only at hw h2 h3 h4 h5 h6 hk h;exact⟨⟨by omega,by omega,by omega,h.1.2⟩,by omega,by omega,hk⟩
theorem nsX_ok(h:NsG els o m):MgO (nsX (pcsG els o m))/\OkIs (nsX (pcsG els o m)):=by
 obtain⟨h1,h2,h3⟩:=nsX_w h
 have hk:∀ x∈nsX (pcsG els o m),OkI x:=λx hx=>OkI_of x (h3 x hx) (by have:=Vip (w:=Va4) hx;omega)
 refine⟨⟨?_,?_,λx hx=>OkI_one (hk x hx)⟩,OkIs_of hk⟩
 ·have:=Vd8 (w:=Va4) Vb5 (nsX (pcsG els o m));omega
 ·have:=catT_wl (nsX (pcsG els o m));omega
theorem wT_pos(V:Nat->DInline)(x:DInline):1<=wT V x:=Vb5 _
theorem len_wT(V:Nat->DInline):∀ l:List DInline,l.length<=wT' V l
 |[]=>Nat.zero_le _
 |x::l=>by
  have:=len_wT V l
  have:=wT_pos V x
  have e:wT' V (x::l)=wT V x+wT' V l:=by simp[wT']
  rw[e,Zm];omega
theorem wT_mem(V:Nat->DInline):∀ {l:List DInline} {x:DInline},x∈l->wT V x<=wT' V l
 |y::l,x,h=>by
  have e:wT' V (y::l)=wT V y+wT' V l:=by simp[wT']
  rw[e];rcases Za.1 h with rfl|h
  ·omega
  ·have:=wT_mem V h;omega
theorem PhP_of(V:Nat->DInline):∀ x,AllI (PhX m) x->wT V x<=1073741824->AllI (PhP m) x:=Vck λx ih hx hw=>by
 have h:=Vaj.1 hx;rw[Vaj]
 by_cases hk:x.fKind= -1
 ·obtain⟨h1,h2⟩:=h.1.1 hk;exact⟨⟨λ_=>h1,by rw[h2];exact Nat.zero_le _⟩,λy hy=>by rw[h2]at hy;cases hy⟩
 ·have e:=Vf7 V hk
  have h2:=len_wT V x.fKids;exact⟨⟨λq=>absurd q hk,by omega⟩,λy hy=>ih y hy (h.2 y hy) (by have:=wT_mem V hy;omega)⟩
theorem Vpg(h:NsG els o m):(∀x∈mgD (nsX (pcsG els o m)),AllI (PhP m) x)/\(mgD (nsX (pcsG els o m))).length<=1073741824/\wT' (VE els o) (mgD (nsX (pcsG els o m)))<=wEs els o m:=by
 obtain⟨h1,h2,h3⟩:=nsX_w h
 have h4:=mgD_wT (VE els o) (nsX (pcsG els o m))
 have h5:=h.wt
 have h6:=len_wT (VE els o) (mgD (nsX (pcsG els o m)));refine⟨λx hx=>PhP_of (VE els o) x (mgD_all (PhX_m m) (PhX_g m) _ h3 x hx) ?_,by omega,by omega⟩
 have:=wT_mem (VE els o) hx;omega
theorem nstG_w(h:NsG els o m):wl Va4 (nstG els o m)<=wEs els o m:=by
 have:=(Vpg h).2.2;unfold nstG;rw[wl_sum,List.map_map];exact this
theorem rsT_cl{V:Nat->DInline}(hV:∀ k,k<m->ClnI (V k))(hm:m<=2048):∀ x,AllI (PhP m) x->ClnI (rsT V x):=Vck λx ih hx=>by
 have h:=Vaj.1 hx
 by_cases hk:x.fKind= -1
 ·obtain⟨k,h1,h2⟩:=h.1.1 hk;rw[rsT_p V hk,h2,Vbs kv];exact hV k h1
 ·rw[rsT_n V hk];refine Vaj.2 ⟨hk,λy hy=>?_⟩;obtain⟨q,hq,rfl⟩:=Zt.1 hy;exact ih q hq (h.2 q hq)
theorem nstG_cl(h:NsG els o m):∀ x∈nstG els o m,ClnI x:=λx hx=>by
 obtain⟨q,hq,rfl⟩:=Zt.1 hx;exact rsT_cl h.cl h.mm q ((Vpg h).1 q hq)
end
end Go.Proofs.YthbpjmogdonlkaaGreatDoor
namespace Go.Proofs.YthbpjmogdonlkaaGreatDoor
open Go Go.Eng
theorem Vgu{P:Program}{f:FuncId}{args:List SV}{p q:Nat×ABox}{gn:List (Key×Nat)}{res:SV}{bx':List (Nat×ABox)}{gn':List (Key×Nat)}(h:Va2 P f args [p,q] gn res bx' gn'):Va2 P f args [q,p] gn res bx' gn':=
 ⟨h.1,λG w vs hw hr hb hg=>h.2 G w vs hw hr (λx hx=>hb x (by simp only[Za,Zc,or_false]at hx ⊢;exact hx.symm)) hg⟩
theorem fnd0_to(x:DInline)(e z0:Int):Va2 Tryz.prog 131 [.av (Vap x),jI e,.ptr 1000 0,.ptr 1001 0] [(1000,.cells 42 [jI 0,jS ⟨#[]⟩,jS ⟨#[]⟩,jS ⟨#[]⟩,jS ⟨#[]⟩,.nil,.nil,.nil,.nil,.nil]),(1001,.cells 3 [jI z0])] [] (jB (decide (e>0))) [(1000,.cells 42 (Vgl x)),(1001,.cells 3 [jI e])] []:=by
 refine bGs Tryz.func131 ?_;refine gO (tn 9 z) ?_;exact eNs
theorem fnd1_to(y x:DInline)(e z0:Int):Va2 Tryz.prog 131 [.av (Vap x),jI e,.ptr 1000 0,.ptr 1001 0] [(1000,.cells 42 (Vgl y)),(1001,.cells 3 [jI z0])] [] (jB (decide (e>0))) [(1000,.cells 42 (Vgl x)),(1001,.cells 3 [jI e])] []:=by
 refine bGs Tryz.func131 ?_;refine gO (tn 9 z) ?_;exact eNs
def NM:SV:=.av (.val (.map none))
def Sr0(s:ByteArray):St:=sx 58 [(0,jS s),(2,.ptr 2 0)] [(2,.cells 146 [NM,NM])] []
end Go.Proofs.YthbpjmogdonlkaaGreatDoor
namespace Go.Eng
variable {P:Program}
section
variable {ev:Operand->Value} {o:Oper} {w:World}
end
end Go.Eng
namespace Go.Proofs.YthbpjmogdonlkaaGreatDoor
open Go Go.Eng Go.RowKit Go.Shelf
attribute [local go_sem] Oper.semAt_some
def pt(b o:Nat):Value:=.pointer (some ⟨b,o,none⟩)
def SEMI:ByteArray:=⟨#[59]⟩
def semI(s:ByteArray):Int:=Lib.indexByte s.data.toList 59
theorem sidx_in(s:ByteArray)(w:World):CallsIn Fence.wide 0 Tryz.prog 300 #[.string s,.string SEMI] w λe w'=>e=.returned (.int .i64 (semI s))/\w'=w:=by
 refine callsIn_of_wp Tryz.func300 rfl trivial ?_ rfl;simp only[Tryz.ntmps300,Zu,Zm,Z4,Nat.reduceAdd,Nat.reduceSub,Z2,Z1,List.push_toArray,Z5,Zp,Zg]
 have hi:=(callsIn_wide (n:=0)).2 (Any.stringslite_Index_one Tryz.lays219 s 59 w)
 gi_wp2
 refine⟨trivial,rfl,hi.mono ?_⟩;rintro e w' ⟨rfl,rfl⟩
 gi_wp2
 go_ret
 exact⟨rfl,rfl⟩
theorem Vna(s:ByteArray): -1<=semI s/\semI s<s.size:=by
 have:=idxB_bd s 59;unfold idxB at this;unfold semI;simpa using this
def prtL:Nat->ByteArray->List ByteArray
 |0,r=>[r]
 |n+1,r=>if semI r<0 then[r]else ByteArray.extract r 0 (Int.toNat (semI r))::prtL n (ByteArray.extract r (Int.toNat (semI r+1)) r.size)
def prt(s:ByteArray):List ByteArray:=prtL s.size s
theorem prtL_more(r:ByteArray):∀(n m:Nat),r.size<=n->r.size<=m->prtL n r=prtL m r:=by
 suffices h:∀(n m:Nat)(r:ByteArray),r.size<=n->r.size<=m->prtL n r=prtL m r by exact λn m=>h n m r
 intro n
 induction n with
 |zero=>
  intro m r h1 h2
  have hb:=Vna r;cases m with
  |zero=>rfl
  |succ m=>rw[prtL,prtL,if_pos kv]
 | succ n ih=>
  intro m r h1 h2
  have hb:=Vna r;cases m with
  |zero=>rw[prtL,prtL,if_pos kv]
  |succ m=>
   rw[prtL,prtL]
   split
   ·rfl
   ·rw[ih m _ (by rw[Zh];omega) (by rw[Zh];omega)]
theorem prt_none{r:ByteArray}(h:semI r<0):prt r=[r]:=by
 unfold prt;cases r.size with
 |zero=>rfl
 |succ n=>rw[prtL,if_pos h]
theorem prt_some{r:ByteArray}(h:0<=semI r):prt r=ByteArray.extract r 0 (Int.toNat (semI r))::prt (ByteArray.extract r (Int.toNat (semI r+1)) r.size):=by
 have hb:=Vna r;unfold prt;obtain⟨n,hn⟩:∃ n,r.size=n+1:=⟨r.size-1,by omega⟩
 rw[hn,prtL,if_neg kv, <-hn];congr 1;exact prtL_more _ _ _ (by rw[Zh];omega) kv
theorem prt_len(s:ByteArray):(prt s).length<=s.size+1:=by
 unfold prt;suffices h:∀(n:Nat)(r:ByteArray),(prtL n r).length<=n+1 from h _ _
 intro n
 induction n with
 |zero=>intro r;simp[prtL]
 |succ n ih=>
  intro r;rw[prtL]
  split
  ·simp
  ·have:=ih (ByteArray.extract r (Int.toNat (semI r+1)) r.size);simp only[Zm];omega
theorem prt_sz(s:ByteArray):∀ x∈prt s,x.size<=s.size:=by
 unfold prt;suffices h:∀(n:Nat)(r:ByteArray),∀x∈prtL n r,x.size<=r.size from h _ _
 intro n
 induction n with
 |zero=>intro r x hx;simp[prtL]at hx;subst hx;omega
 | succ n ih=>
  intro r x hx;rw[prtL]at hx
  split at hx
  ·simp at hx;subst hx;omega
  ·simp only[Za]at hx;rcases hx with rfl|hx
   ·rw[Zh];omega
   ·have:=ih _ x hx;rw[Zh]at this;omega
def sw3(s:ByteArray)(w:World):World:=((w.alloc (.cells #[.string s] 9)).alloc (.cells #[.string SEMI] 9)).alloc (.cells #[.int .i64 0] 3)
def sfn(w:World):Value:=.func (.func 301) #[] #[pt (w.heap.size+1) 0,pt w.heap.size 0,pt (w.heap.size+2) 0]
theorem spl_in(s:ByteArray)(w:World):CallsIn Fence.wide 0 Tryz.prog 275 #[.string s,.string SEMI,.int .i64 0] w λe w'=>e=.returned (sfn w)/\w'=sw3 s w:=by
 refine callsIn_of_wp Tryz.func275 rfl trivial ?_ rfl;simp only[Tryz.ntmps275,Zu,Zm,Z4,Nat.reduceAdd,Nat.reduceSub,Z2,Z1,List.push_toArray,Z5,Zp,Zg]
 gi_wp2
 go_ret
 exact⟨rfl,rfl⟩
theorem sps_in(s:ByteArray)(w:World):CallsIn Fence.wide 0 Tryz.prog 234 #[.string s,.string SEMI] w λe w'=>e=.returned (sfn w)/\w'=sw3 s w:=by
 refine callsIn_of_wp Tryz.func234 rfl trivial ?_ rfl;simp only[Tryz.ntmps234,Zu,Zm,Z4,Nat.reduceAdd,Nat.reduceSub,Z2,Z1,List.push_toArray,Z5,Zp,Zg]
 gi_wp2
 refine⟨trivial,rfl,(spl_in s w).mono ?_⟩;rintro e w' ⟨rfl,rfl⟩;unfold sfn
 gi_wp2
 go_ret
 exact⟨rfl,rfl⟩
def KB1(B:Nat)(A C:World):Prop:=C.heap[B]? =A.heap[B]?
def Vej(s:ByteArray):Obj:=.cells #[.string s] 9
def intOb(i:Int):Obj:=.cells #[.int .i64 i] 3
def SeqW(P:Program)(g:Nat)(lb:Array Value)(Bs:Nat)(Kp:World->World->Prop)(ps:List ByteArray)(w:World):Prop:=
 ∀(l:Nat)(J Jx:List ByteArray->World->Prop)(W:World),Below w.heap.size w W->(∀pre A r,J pre A->A.heap[Bs]? =some (Vej r)->∀ r',J pre (A.setCell ⟨Bs,0,none⟩ (.string r')))->
  (∀pre x A,J pre A->(∃q,pre++x::q=ps)->YieldAt Fence.wide 0 P l #[.string x] A λe A'=>(e=.returned (.bool true)/\J (pre++[x]) A'/\Kp A A')\/(e=.returned (.bool false)/\Jx (pre++[x]) A'))->
  J [] W->CallsIn Fence.wide 0 P g (#[.func (.yield l) #[] #[]]++lb) W λe W'=>(∃v,e=.returned v)/\(J ps W'\/∃ pre,(∃q,pre++q=ps)/\Jx pre W')
end Go.Proofs.YthbpjmogdonlkaaGreatDoor
namespace Go.Proofs.YthbpjmogdonlkaaGreatDoor
open Go Go.Eng Go.RowKit Go.Shelf
attribute [local go_sem] Oper.semAt_some
def K3(Bp Bs Bz:Nat)(A C:World):Prop:=KB1 Bp A C/\KB1 Bs A C/\KB1 Bz A C
def strSz(V:World)(B:Nat):Nat:=match V.cell? ⟨B,0,none⟩with
 |some (.string r)=>r.size
 |_=>0
theorem Vei{V:World}{B:Nat}{r:ByteArray}(h:V.heap[B]? =some (Vej r)):V.cell? ⟨B,0,none⟩=some (.string r)/\V.frozen? ⟨B,0,none⟩=false:=by
 simp only[World.cell?,World.frozen?,h,Vej];exact⟨rfl,rfl⟩
theorem int_cell{V:World}{B:Nat}{r:Int}(h:V.heap[B]? =some (intOb r)):V.cell? ⟨B,0,none⟩=some (.int .i64 r):=by
 simp only[World.cell?,h,intOb];rfl
theorem set_same{V:World}{B:Nat}{r r':ByteArray}(h:V.heap[B]? =some (Vej r)):(V.setCell ⟨B,0,none⟩ (.string r')).heap[B]? =some (Vej r'):=by
 simp[World.setCell,Array.getElem?_modify,h,Vej]
theorem Vco{V:World}{B C:Nat}{r':ByteArray}(h:C≠B):(V.setCell ⟨B,0,none⟩ (.string r')).heap[C]? =V.heap[C]? :=by
 simp[World.setCell,Array.getElem?_modify,Ne.symm h]
theorem spw_in(s:ByteArray)(Bp Bs Bz:Nat)(w0:World)(hp:Bp<w0.heap.size)(hs:Bs<w0.heap.size)(hz:Bz<w0.heap.size)(n1:Bp≠Bs)(n2:Bz≠Bs)(c1:w0.heap[Bp]? =some (Vej SEMI))(c2:w0.heap[Bs]? =some (Vej s))(c3:w0.heap[Bz]? =some (intOb 0))(hsz:s.size<=1073741824):
  SeqW Tryz.prog 301 #[pt Bp 0,pt Bs 0,pt Bz 0] Bs (K3 Bp Bs Bz) (prt s) w0:=by
 intro lp J Jx W hW hJs hY h0
 have k1:W.heap[Bp]? =some (Vej SEMI):=(hW.block Bp hp).trans c1
 have k2:W.heap[Bs]? =some (Vej s):=(hW.block Bs hs).trans c2
 have k3:W.heap[Bz]? =some (intOb 0):=(hW.block Bz hz).trans c3;obtain⟨d1,_⟩:=Vei k1;clear hW c1 c2 c3;refine callsIn_of_wp Tryz.func301 rfl trivial ?_ rfl;simp only[Tryz.ntmps301,Zu,Zm,Z4,Nat.reduceAdd,Nat.reduceSub,Z2,Z1,List.push_toArray,Z5,Zp,Zg];unfold pt
 gi_wp2
 gi_loopw [] (λV=>∃(r:ByteArray)(pre:List ByteArray),J pre V/\pre++prt r=prt s/\r.size<=s.size/\V.heap[Bp]? =some (Vej SEMI)/\V.heap[Bs]? =some (Vej r)/\V.heap[Bz]? =some (intOb 0)) (λV=>strSz V Bs)
 case atStart=>exact⟨s,[],h0,by simp,Nat.le_refl _,k1,k2,k3⟩
 obtain⟨r,pre,hj,hpr,hrs,b1,b2,b3⟩:=hrel;obtain⟨e1,_⟩:=Vei b1;obtain⟨e2,f2⟩:=Vei b2
 have e3:=int_cell b3
 have hbd:=Vna r
 by_cases hneg:semI r<0
 ·have hi:semI r<0:=hneg
  have hpn:=prt_none hneg;obtain⟨fn,tmps,assign,body,hy,hR⟩:=hY pre r wr hj ⟨[],by rw[<-hpr,hpn]⟩
  have hx:=sidx_in r wr;clear hY hJs
  gi_wp2
  refine⟨trivial,rfl,hx.mono ?_⟩;rintro e w' ⟨rfl,rfl⟩;clear hx
  gi_wp2
  refine⟨rfl,hR.mono ?_⟩;rintro e W3 (⟨rfl,hJ3,hk3⟩|⟨rfl,hJx3⟩)
  ·clear hy hR
   gi_wp2
   go_end0
   exact⟨⟨_,rfl⟩,.inl (by rw[<-hpr,hpn];exact hJ3)⟩
  ·clear hy hR
   gi_wp2
   go_end0
   exact⟨⟨_,rfl⟩,.inr ⟨pre++[r],⟨[],by rw[<-hpr,hpn];simp⟩,hJx3⟩⟩
 ·have hi:¬ semI r<0:=hneg
  have h0:0<=semI r:=by omega
  have hpn:=prt_some h0;obtain⟨fn,tmps,assign,body,hy,hR⟩:=hY pre (ByteArray.extract r 0 (Int.toNat (semI r))) wr hj ⟨prt (ByteArray.extract r (Int.toNat (semI r+1)) r.size),by rw[<-hpr,hpn]⟩
  have hx:=sidx_in r wr;clear hY
  gi_wp2
  refine⟨trivial,rfl,hx.mono ?_⟩;rintro e w' ⟨rfl,rfl⟩;clear hx
  gi_wp2
  refine⟨rfl,hR.mono ?_⟩;rintro e W3 (⟨rfl,hJ3,g1,g2,g3⟩|⟨rfl,hJx3⟩)
  ·have b1':W3.heap[Bp]? =some (Vej SEMI):=Eq.trans g1 b1
   have b2':W3.heap[Bs]? =some (Vej r):=Eq.trans g2 b2
   have b3':W3.heap[Bz]? =some (intOb 0):=Eq.trans g3 b3;obtain⟨e1',_⟩:=Vei b1';obtain⟨e2',f2'⟩:=Vei b2';clear hy hR g1 g2 g3 e1 e2 e3 f2
   have hss:SEMI.size=1:=rfl
   have hb1:0<=semI r+1:=by omega
   have hb2:semI r+1<=(r.size:Int):=by omega
   have hw1:IntKind.i64.wrap (semI r+1)=semI r+1:=wrE _ _ kv
   gi_wp2
   refine⟨⟨_,_,_,_,_,_,_,_,_,_,_,_,_,_,_,_,_,_,_,_,_,_,⟨ByteArray.extract r (Int.toNat (semI r+1)) r.size,pre++[ByteArray.extract r 0 (Int.toNat (semI r))],hJs _ _ _ hJ3 b2' _,by rw[<-hpr,hpn];simp,by rw[Zh];omega,(Vco n1).trans b1',set_same b2',(Vco n2).trans b3'⟩,rfl⟩,?_⟩
   have q1:=(Vei (set_same (r':=ByteArray.extract r (Int.toNat (semI r+1)) r.size) b2')).1
   have q2:=(Vei b2).1;unfold strSz;rw[q1,q2]
   show(ByteArray.extract r (Int.toNat (semI r+1)) r.size).size<r.size;rw[Zh];omega
  ·clear hy hR
   gi_wp2
   refine bodyPost_ret (results_none rfl _ _ _) rfl ?_;exact⟨⟨_,rfl⟩,.inr ⟨pre++[ByteArray.extract r 0 (Int.toNat (semI r))],⟨prt (ByteArray.extract r (Int.toNat (semI r+1)) r.size),by rw[<-hpr,hpn];simp⟩,hJx3⟩⟩
end Go.Proofs.YthbpjmogdonlkaaGreatDoor
namespace Go.Proofs.YthbpjmogdonlkaaGreatDoor
open Go Go.Eng Go.RowKit Go.Shelf
theorem rngW{P:Program}{g:Operand}{p:Tmp}{assign body:Code}{Q:Exit->Act->World->Prop}{a:Act}{w w0:World}{gf:Nat}{lb:Array Value}{Bs:Nat}{Kp:World->World->Prop}{xs:List ByteArray}
  (hg:a.eval g=.func (.func gf) #[] lb) (eg:∀ args w,(callFunc gf args).run P w=.ok (.enter gf args) w) (hseq:SeqW P gf lb Bs Kp xs w0) (hb0:Below w0.heap.size w0 w) (hBs:Bs<w.heap.size)
  (hKt:∀ {A B C:World},Kp A B->Kp B C->Kp A C) (hKb:∀(W:World)(l:Nat)(o':Obj),w.heap.size<=l->Kp W (W.putObj l o'))
  (I:List ByteArray->World->Prop) (Ix:Code->List ByteArray->World->Prop) (hI:OwnFrom w.heap.size I) (hIx:∀ c,OwnFrom w.heap.size (Ix c)) (hIs:∀ pre A r r',I pre A->A.heap[Bs]? =some (Vej r)->I pre (A.setCell ⟨Bs,0,none⟩ (.string r'))) (h0:I [] w) (a1:ByteArray->Act)
  (hassign:∀(l:Nat)(x:ByteArray)(W:World)(K:Act->World->Prop),K (a1 x) W->assign.wpIn (Fence.wide.inRound l) 0 P (Exit.then K (λ_ _ _=>False)) {tmps:=(#[p].zip #[Value.string x]).foldl (λt (p,v)=>t.setIfInBounds p v) a.tmps,defers:=[]} W)
  (hbody:∀(l:Nat)(pre:List ByteArray)(x:ByteArray)(W:World),I pre W->(∃q,pre++x::q=xs)->body.wpIn (Fence.wide.inRound l) 0 P (ownPostK Kp I Ix (pre++[x]) W) (a1 x) W)
  (hdone:∀(D:Nat)(W:World),w.heap.size<=D->I xs W->W.heap[D]? =some (.deferred (some []))->Q .normal {a with defers:={target:=.collected D,args:=#[]}::a.defers} W)
  (hstop:∀(D:Nat)(c:Code)(pre:List ByteArray)(W:World),w.heap.size<=D->(∃q,pre++q=xs)->Ix c pre W->W.heap[D]? =some (.deferred (some []))->c.wpIn Fence.wide 1 P Q {a with defers:={target:=.collected D,args:=#[]}::a.defers} W):
  (Code.rangeFunc g #[p] assign body).wpIn Fence.wide 1 P Q a w:=by
 refine wpIn_rangeFunc (λfn hfn=>?_);rw[show Fence.wide.round=none from rfl]
 let D:=w.heap.size
 let rec':LoopState->Option Code->Loop:=λst pe=>{state:=st,pending:=pe,fn,tmps:=a.tmps,params:=#[p],assign,body,defers:=D}
 obtain⟨W1,hW1⟩:∃ W1,W1=(w.alloc (.deferred (some []))).alloc (.loop (rec' .ready none)):=⟨_,rfl⟩
 have s1:W1.heap.size=D+2:=by rw[hW1];simp[D]
 have eL:W1.heap[D+1]? =some (.loop (rec' .ready none)):=by
  rw[hW1]
  have:=World.alloc_heap_new (w.alloc (.deferred (some []))) (.loop (rec' .ready none));rwa[World.size_alloc]at this
 have eD:W1.heap[D]? =some (.deferred (some [])):=by
  rw[hW1];exact(Below.heap_alloc _ _ _ (by simp[D])).trans (World.alloc_heap_new w _)
 have i1:I [] W1:=by rw[hW1];exact hI.alloc _ (hI.alloc _ h0)
 have b1:Below w0.heap.size w0 W1:=by
  rw[hW1]
  have:=hb0.size;exact(hb0.alloc this _).alloc (by simp;omega) _
 -- the three facts that go through the rounds
 let J:List ByteArray->World->Prop:=λpre W=>I pre W/\W.heap[D+1]? =some (.loop (rec' .ready none))/\W.heap[D]? =some (.deferred (some []))
 let Jx:List ByteArray->World->Prop:=λpre W=>∃ c,Ix c pre W/\W.heap[D+1]? =some (.loop (rec' .done (some c)))/\W.heap[D]? =some (.deferred (some []))
 have hround:∀ pre x A,J pre A->(∃q,pre++x::q=xs)->YieldAt Fence.wide 0 P (D+1) #[.string x] A λe A'=>(e=.returned (.bool true)/\J (pre++[x]) A'/\Kp A A')\/(e=.returned (.bool false)/\Jx (pre++[x]) A'):=by
  rintro pre x A ⟨ji,jl,jd⟩ hq
  have hy:=run_yield (P:=P) (args:=#[.string x]) jl rfl;refine⟨fn,_,assign,body,hy,roundIn_of_wpIn hfn (hassign _ x A _ ⟨_,run_beginRound jl rfl,?_⟩)⟩;obtain⟨busy,hbusy⟩:∃ b,b=rec' .busy none:=⟨_,rfl⟩
  have e2:{rec' .ready none with state:=.busy}=busy:=by rw[hbusy]
  rw[e2]
  have hlt:D+1<A.heap.size:=(Array.getElem?_eq_some_iff.1 jl).1
  have l2:(A.putObj (D+1) (.loop busy)).heap[D+1]? =some (.loop busy):=World.putObj_heap_same hlt
  have d2:(A.putObj (D+1) (.loop busy)).heap[D]? =some (.deferred (some [])):=(World.putObj_heap_other kv).trans jd;refine wpIn_mono (hbody _ pre x _ (hI.putObj _ ji kv jl rfl) hq) ?_
  have ending:∀(jump:Option Code)(W3:World),KeepsOthers (A.putObj (D+1) (.loop busy)) W3->∃ W4,W4=W3.putObj (D+1) (.loop (rec' (if jump.isNone then .ready else .done) jump))/\(Instr.endRound (D+1) jump).run P W3=.ok (.bool jump.isNone) W4/\W3.heap[D+1]? =some (.loop busy)/\
    W4.heap[D+1]? =some (.loop (rec' (if jump.isNone then .ready else .done) jump))/\W4.heap[D]? =some (.deferred (some [])):=by
   intro jump W3 hk
   have l3:=hk.same _ _ l2 rfl
   have d3:=hk.same _ _ d2 rfl
   have hr:=run_endRound (P:=P) jump l3;refine⟨_,rfl,?_,l3,World.putObj_heap_same (Array.getElem?_eq_some_iff.1 l3).1,(World.putObj_heap_other kv).trans d3⟩;rw[hr,hbusy]
  rintro e a3 W3 hp
  have stopped:∀ c,KeepsOthers (A.putObj (D+1) (.loop busy)) W3/\Ix c (pre++[x]) W3->∃ r W4,(Instr.endRound (D+1) (some c)).run P W3=.ok r W4/\((Ending.returned r=.returned (.bool true)/\J (pre++[x]) W4/\Kp A W4)\/(Ending.returned r=.returned (.bool false)/\Jx (pre++[x]) W4)):=by
   rintro c ⟨hk,hi⟩;obtain⟨W4,e4,r4,l3,l4,d4⟩:=ending (some c) W3 hk;refine⟨_,W4,r4,.inr ⟨rfl,c,?_,l4,d4⟩⟩;rw[e4];exact(hIx c).putObj _ hi kv l3 rfl
  cases e with
  |normal=>
   obtain⟨hk,hkp,hi⟩:=hp;obtain⟨W4,e4,r4,l3,l4,d4⟩:=ending none W3 hk;refine⟨_,W4,r4,.inl ⟨rfl,⟨?_,l4,d4⟩,?_⟩⟩
   ·rw[e4];exact hI.putObj _ hi kv l3 rfl
   ·rw[e4];exact hKt (hKt (hKb _ _ _ kv) hkp) (hKb _ _ _ kv)
  |ret=>exact stopped _ hp
  |exit id=>exact stopped _ hp
  |goto t=>exact stopped _ hp
  |panic ch=>exact hp.elim
  |outgrown=>exact hp.elim
 refine⟨D+1,[{target:=.collected D,args:=#[]}],W1,{target:=.fn (.func gf) lb,args:=#[.func (.yield (D+1)) #[] #[]]},W1,gf,#[.func (.yield (D+1)) #[] #[]]++lb,W1,?_,?_,?_,?_,λ_=>Nat.le_refl 1,?_⟩
 ·rw[hW1];exact run_enterLoop_outer _ _ _ _ _
 ·simp only[resolve,hg];simp[go_sem]
 ·intro f' hf';exact trivial
 ·simp[invoke,go_sem,eg]
 ·have hJs:∀ pre A r,J pre A->A.heap[Bs]? =some (Vej r)->∀ r',J pre (A.setCell ⟨Bs,0,none⟩ (.string r')):=by
   rintro pre A r ⟨ji,jl,jd⟩ hr r';exact⟨hIs _ _ _ _ ji hr,(Vco kv).trans jl,(Vco kv).trans jd⟩
  refine(hseq (D+1) J Jx W1 b1 hJs hround ⟨i1,eL,eD⟩).mono ?_;rintro e W2 ⟨⟨v,rfl⟩,h⟩;rcases h with⟨ji,jl,jd⟩|⟨pre,hq,c,hi,jl,jd⟩
  ·exact⟨none,_,run_endLoop (P:=P) jl (by simp[rec']),hdone _ _ (Nat.le_refl _) (hI.putObj _ ji kv jl rfl) ((World.putObj_heap_other kv).trans jd)⟩
  ·exact⟨some c,_,run_endLoop (P:=P) jl (by simp[rec']),hstop _ c pre _ (Nat.le_refl _) hq ((hIx c).putObj _ hi kv jl rfl) ((World.putObj_heap_other kv).trans jd)⟩
end Go.Proofs.YthbpjmogdonlkaaGreatDoor
