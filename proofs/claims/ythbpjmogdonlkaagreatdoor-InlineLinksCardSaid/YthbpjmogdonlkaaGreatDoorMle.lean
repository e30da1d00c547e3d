/- Texts joined by a program (merge.py). -/
import Derived.Test.YthbpjmogdonlkaaGreatDoorMld
import Derived.KernelRfl
import Derived.StillTail
import Derived.Laws.MakeOwn
import Derived.Test.YthbpjmogdonlkaaGreatDoorMlb
import Derived.Lib.Builder
import Derived.Lib.UnsafeStr
import Derived.Lib.AppendStr
import Derived.WalkKit
import Derived.Laws.Externs
import Derived.RegionTactic
import Derived.Lib.OthersKept
import Derived.Lib.IndexAny
import Derived.Shelf.Strings.Search2
set_option linter.unusedSimpArgs false
set_option linter.unusedVariables false
set_option maxRecDepth 100000
set_option maxHeartbeats 4000000
open ByteArray renaming size -> Za
open Array renaming getD_eq_getD_getElem? -> Zb
open Bool renaming and_eq_true -> Zc
open Option.some renaming injEq -> Zd
open List renaming all_eq_true -> Ze
open Array renaming getElem?_setIfInBounds_ne -> Zf
open Nat renaming le_refl -> Zg
open Prod.mk renaming injEq -> Zh
open Nat renaming lt_succ_self -> Zi
open List renaming range -> Zj
open Array renaming getElem?_setIfInBounds_self_of_lt -> Zk
open List renaming not_mem_nil -> Zl
open Array renaming getElem?_eq_getElem -> Zm
open Nat renaming le_of_ble_eq_true -> Zn
open Bool renaming not_eq_true' -> Zo
open List renaming mem_cons -> Zp
open List renaming getElem?_set -> Zq
open List renaming mem_range -> Zr
open UInt8 renaming ofNat -> Zs
open Bool renaming or_eq_true -> Zt
open List renaming getElem?_append_left -> Zu
open Array renaming getElem?_modify -> Zv
open List renaming getElem?_eq_getElem -> Zw
open List renaming getD_eq_getElem?_getD -> Zx
open List renaming mem_map -> Zy
open List renaming append_assoc -> Zz
open List renaming length_append -> Z0
open Array renaming replicate -> Z1
open Array renaming getElem?_eq_some_iff -> Z2
open List renaming getElem?_eq_some_iff -> Z3
open Option renaming isSome_iff_exists -> Z4
open List renaming mem_append -> Z5
open Nat renaming zero_add -> Z6
open List renaming getElem?_toArray -> Z7
open Option renaming getD_some -> Z8
open Nat renaming mul_le_mul_right -> Z9
open List renaming mem_of_getElem? -> Ya
open Option renaming map_some -> Yb
open ByteArray renaming size_push -> Yc
namespace Go.Proofs.YthbpjmogdonlkaaGreatDoor
open Go Go.Eng
theorem Vjl(s:ByteArray)(i:Int)(h:0<=i):i<=wrdA s i/\(wrdA s i<=s.size\/wrdA s i<=i):=by
 refine Ven s (wrdA_L0 s i) (λn v=>?_) _ i h kv;rw[wrdA_L0];refine Va5 (λr:Int=>r=v\/(v<(s.size:Int)/\r=wrdA_L0 s i n (v+1))) (λq=>?_) (λq=>.inl rfl)
 first
 |exact .inr ⟨of_decide_eq_true (Va9 q).1,rfl⟩
 |(have q1:=of_decide_eq_true q;exact Va5 (λr:Int=>r=v\/(v<(s.size:Int)/\r=wrdA_L0 s i n (v+1))) (λ_=>.inl rfl) (λ_=>.inr ⟨q1,rfl⟩))
 |(have q1:=of_decide_eq_true q;exact Va5 (λr:Int=>r=v\/(v<(s.size:Int)/\r=wrdA_L0 s i n (v+1))) (λ_=>.inr ⟨q1,rfl⟩) (λ_=>.inl rfl))
theorem Vbw(s:ByteArray)(i:Int)(h:0<=i):i<=skpS s i/\(skpS s i<=s.size\/skpS s i<=i):=by
 refine Ven s (skpS_L0 s i) (λn v=>?_) _ i h kv;rw[skpS_L0];refine Va5 (λr:Int=>r=v\/(v<(s.size:Int)/\r=skpS_L0 s i n (v+1))) (λq=>?_) (λq=>.inl rfl)
 first
 |exact .inr ⟨of_decide_eq_true (Va9 q).1,rfl⟩
 |(have q1:=of_decide_eq_true q;exact Va5 (λr:Int=>r=v\/(v<(s.size:Int)/\r=skpS_L0 s i n (v+1))) (λ_=>.inl rfl) (λ_=>.inr ⟨q1,rfl⟩))
 |(have q1:=of_decide_eq_true q;exact Va5 (λr:Int=>r=v\/(v<(s.size:Int)/\r=skpS_L0 s i n (v+1))) (λ_=>.inr ⟨q1,rfl⟩) (λ_=>.inl rfl))
theorem Veo(s:ByteArray)(i:Int)(h:0<=i):i<=runE s i/\(runE s i<=s.size\/runE s i<=i):=by
 refine Ven s (runE_L0 s i) (λn v=>?_) _ i h kv;rw[runE_L0];refine Va5 (λr:Int=>r=v\/(v<(s.size:Int)/\r=runE_L0 s i n (v+1))) (λq=>?_) (λq=>.inl rfl)
 first
 |exact .inr ⟨of_decide_eq_true (Va9 q).1,rfl⟩
 |(have q1:=of_decide_eq_true q;exact Va5 (λr:Int=>r=v\/(v<(s.size:Int)/\r=runE_L0 s i n (v+1))) (λ_=>.inl rfl) (λ_=>.inr ⟨q1,rfl⟩))
 |(have q1:=of_decide_eq_true q;exact Va5 (λr:Int=>r=v\/(v<(s.size:Int)/\r=runE_L0 s i n (v+1))) (λ_=>.inr ⟨q1,rfl⟩) (λ_=>.inl rfl))
theorem Vfh(s:ByteArray)(i:Int)(h:0<=i):i<=nmeS s i/\(nmeS s i<=s.size\/nmeS s i<=i):=by
 refine Ven s (nmeS_L0 s i) (λn v=>?_) _ i h kv;rw[nmeS_L0];refine Va5 (λr:Int=>r=v\/(v<(s.size:Int)/\r=nmeS_L0 s i n (v+1))) (λq=>?_) (λq=>.inl rfl)
 first
 |exact .inr ⟨of_decide_eq_true (Va9 q).1,rfl⟩
 |(have q1:=of_decide_eq_true q;exact Va5 (λr:Int=>r=v\/(v<(s.size:Int)/\r=nmeS_L0 s i n (v+1))) (λ_=>.inl rfl) (λ_=>.inr ⟨q1,rfl⟩))
 |(have q1:=of_decide_eq_true q;exact Va5 (λr:Int=>r=v\/(v<(s.size:Int)/\r=nmeS_L0 s i n (v+1))) (λ_=>.inr ⟨q1,rfl⟩) (λ_=>.inl rfl))
theorem Vi0(s:ByteArray)(i:Int)(h:0<=i):i<=skpL s i/\(skpL s i<=s.size\/skpL s i<=i):=by
 refine Ven s (skpL_L0 s i) (λn v=>?_) _ i h kv;rw[skpL_L0];refine Va5 (λr:Int=>r=v\/(v<(s.size:Int)/\r=skpL_L0 s i n (v+1))) (λq=>?_) (λq=>.inl rfl)
 first
 |exact .inr ⟨of_decide_eq_true (Va9 q).1,rfl⟩
 |(have q1:=of_decide_eq_true q;exact Va5 (λr:Int=>r=v\/(v<(s.size:Int)/\r=skpL_L0 s i n (v+1))) (λ_=>.inl rfl) (λ_=>.inr ⟨q1,rfl⟩))
 |(have q1:=of_decide_eq_true q;exact Va5 (λr:Int=>r=v\/(v<(s.size:Int)/\r=skpL_L0 s i n (v+1))) (λ_=>.inr ⟨q1,rfl⟩) (λ_=>.inl rfl))
def bslP(s:ByteArray)(i:Int):(DInline×Int):=cond (decide ((i+1:Int)>=((Za s:Nat):Int))) (DInline.mk 0 (⟨#[]⟩) (⟨#[]⟩) (⟨#[]⟩) (DAttr.mk (⟨#[]⟩) ([]) ([])) ([]) ([]) ([]),0) (cond (((byt s (Int.toNat (i+1)):Nat):Int)==10) (DInline.mk 3 (⟨#[]⟩) (⟨#[]⟩) (⟨#[]⟩) (DAttr.mk (⟨#[]⟩) ([]) ([])) ([]) ([]) ([]),skpS s (i+2)) (cond (cond (decide (((byt s (Int.toNat (i+1)):Nat):Int)<128)) (pncC (IntKind.i64.wrap ((byt s (Int.toNat (i+1)):Nat):Int))) false) (DInline.mk 1 (ByteArray.extract s (Int.toNat (i+1)) (Int.toNat (i+2))) (⟨#[]⟩) (⟨#[]⟩) (DAttr.mk (⟨#[]⟩) ([]) ([])) ([]) ([]) ([]),i+2) (DInline.mk 0 (⟨#[]⟩) (⟨#[]⟩) (⟨#[]⟩) (DAttr.mk (⟨#[]⟩) ([]) ([])) ([]) ([]) ([]),0)))
theorem bslP_to(s:ByteArray)(i:Int)(hs:s.size<=1073741824)(h0:0<=i)(h1:i<s.size):Va2 Tryz.prog 132 [(jS s),(jI i)] [] [] (.av (.tup [(Vap ((bslP s i).1)),(vI ((bslP s i).2))])) [] []:=by
 refine BEG (λr:(DInline×Int)=>(.av (.tup [(Vap r.1),(vI r.2)]))) (bslP s i) Tryz.func132 kx ?_;refine UF (bslP.eq_1 ..) ?_;refine GO (tn 3 (kn (wrE (i+1) (i+1) kv) (tn 3 z))) kx ?_;refine CSd (λh1p h1=>?_) (λh1p h1=>?_)
 ·refine GO (kb h1 (tn 3 z)) kx ?_;exact EN kx
 ·refine GO (kb h1 (tn 2 (kn (wrE (i+1) (i+1) kv) (kp (ib s (i+1) kv) (tn 1 z))))) kx ?_;refine CSe (λh2p h2=>?_) (λh2p h2=>?_)
  ·have:=Vbw s (i+2) gk;refine GO (kb h2 (tn 3 (kn (wrE (i+2) (i+2) kv) (kc (Vk2 s (i+2) ky ky ky) (tn 2 z))))) kx ?_;exact EN kx
  ·refine GO (kb h2 (tn 2 (kn (wrE (i+1) (i+1) kv) (kp (ib s (i+1) kv) (tn 2 (kj (decide (((byt s (Int.toNat (i+1)):Nat):Int)<128)) (tn 2 (hn (λh=>by have j0:=h.2;have j0p:=of_decide_eq_true j0;exact(wrE (i+1) (i+1) kv)) (hp (λh=>by have j0:=h.2;have j0p:=of_decide_eq_true j0;exact(ib s (i+1) kv)) (tn 1 (hc (λh=>by have j0:=h.2;have j0p:=of_decide_eq_true j0;have:=Vee s (Int.toNat (i+1));have:=Vgc s (Int.toNat (i+1));exact(Vfg (IntKind.i64.wrap ((byt s (Int.toNat (i+1)):Nat):Int)))) z))))) z z)))))) kx ?_;refine CS (λh3=>?_) (λh3=>?_)
   ·obtain⟨h3a,h3o⟩:=Va9 h3
    have h3ap:=of_decide_eq_true h3a
    have:=Vag s (Int.toNat (i+1)) (Int.toNat (i+2));refine GO (kb h3 (tn 2 (kn (wrE (i+1) (i+1) kv) (tn 1 (kn (wrE (i+2) (i+2) kv) (kp (show 0<=(i+1:Int)/\(i+1:Int)<=i+2/\i+2<=((Za s:Nat):Int)from(by first|omega|(simp only[Va6,true_and];omega))) (tn 2 (kn (wrE (i+2) (i+2) kv) (tn 2 z))))))))) kx ?_;exact EN kx
   ·refine GO (kb h3 (tn 3 z)) kx ?_;exact EN kx
def citF(part:ByteArray):(DCited×Bool):=cond (cond (decide ((idxB part 64:Int)<0)) true (decide ((idxB (ByteArray.extract part (Int.toNat ((idxB part 64)+1)) (Za part)) 64:Int)>=0))) (DCited.mk (⟨#[]⟩) (⟨#[]⟩) (⟨#[]⟩) false,false) (cond (cond (decide ((idxB part 64:Int)>0)) (((byt part (Int.toNat ((idxB part 64)-1)):Nat):Int)==45) false) (cond (cond (decide (((idxB part 64)-1:Int)>0)) (((byt part (Int.toNat (((idxB part 64)-1)-1)):Nat):Int) !=32) false) (DCited.mk (⟨#[]⟩) (⟨#[]⟩) (⟨#[]⟩) false,false) (cond (!namA (ByteArray.extract part (Int.toNat ((idxB part 64)+1)) (Int.toNat (nmeS part ((idxB part 64)+1))))) (DCited.mk (⟨#[]⟩) (⟨#[]⟩) (⟨#[]⟩) false,false) (DCited.mk (ByteArray.extract part (Int.toNat ((idxB part 64)+1)) (Int.toNat (nmeS part ((idxB part 64)+1)))) (trmB (ByteArray.extract part 0 (Int.toNat ((idxB part 64)-1))) (⟨#[32]⟩)) (trmB (ByteArray.extract part (Int.toNat (nmeS part ((idxB part 64)+1))) (Za part)) (⟨#[32]⟩)) true,true))) (cond (cond (decide ((idxB part 64:Int)>0)) (((byt part (Int.toNat ((idxB part 64)-1)):Nat):Int) !=32) false) (DCited.mk (⟨#[]⟩) (⟨#[]⟩) (⟨#[]⟩) false,false) (cond (!namA (ByteArray.extract part (Int.toNat ((idxB part 64)+1)) (Int.toNat (nmeS part ((idxB part 64)+1))))) (DCited.mk (⟨#[]⟩) (⟨#[]⟩) (⟨#[]⟩) false,false) (DCited.mk (ByteArray.extract part (Int.toNat ((idxB part 64)+1)) (Int.toNat (nmeS part ((idxB part 64)+1)))) (trmB (ByteArray.extract part 0 (Int.toNat (idxB part 64))) (⟨#[32]⟩)) (trmB (ByteArray.extract part (Int.toNat (nmeS part ((idxB part 64)+1))) (Za part)) (⟨#[32]⟩)) false,true))))
theorem citF_to(part:ByteArray)(hpart:part.size<=1073741824):Va2 Tryz.prog 235 [(jS part)] [] [] (.av (.tup [(cCited ((citF part).1)),(vB ((citF part).2))])) [] []:=by
 refine BEG (λr:(DCited×Bool)=>(.av (.tup [(cCited r.1),(vB r.2)]))) (citF part) Tryz.func235 kx ?_;refine UF (citF.eq_1 ..) ?_
 have:=idxB_bd part 64;refine GO (tn 3 (kc (Vko part 64) (tn 4 (kj (decide ((idxB part 64:Int)<0)) z (tn 2 (hn (λh=>by have j0:=h.2;have j0p:=of_decide_eq_false j0;exact(wrE ((idxB part 64)+1) ((idxB part 64)+1) kv)) (hp (λh=>by have j0:=h.2;have j0p:=of_decide_eq_false j0;have:=Vag part (Int.toNat ((idxB part 64)+1)) (Za part);exact(show 0<=((idxB part 64)+1:Int)/\((idxB part 64)+1:Int)<=((Za part:Nat):Int)/\((Za part:Nat):Int)<=((Za part:Nat):Int)from(by first|omega|(simp only[Va6,true_and];omega)))) (kc (Vko (ByteArray.extract part (Int.toNat ((idxB part 64)+1)) (Za part)) 64) (tn 1 z))))) z)))) kx ?_;refine CS (λh1=>?_) (λh1=>?_)
 ·refine GO (kb h1 (tn 3 z)) kx ?_;exact EN kx
 ·obtain⟨h1a,h1o⟩:=Vae h1
  have h1ap:=of_decide_eq_false h1a
  have h1op:=of_decide_eq_false h1o;refine GO (kb h1 (tn 6 (kj (decide ((idxB part 64:Int)>0)) (tn 2 (hn (λh=>by have j0:=h.2;have j0p:=of_decide_eq_true j0;exact(wrE ((idxB part 64)-1) ((idxB part 64)-1) kv)) (hp (λh=>by have j0:=h.2;have j0p:=of_decide_eq_true j0;exact(ib part ((idxB part 64)-1) kv)) (tn 1 z)))) z z))) kx ?_;refine CS (λh2=>?_) (λh2=>?_)
  ·obtain⟨h2a,h2o⟩:=Va9 h2
   have h2ap:=of_decide_eq_true h2a
   have h2op:=eq_of_beq h2o;refine GO (kb h2 (tn 3 (kn (wrE ((idxB part 64)-1) ((idxB part 64)-1) kv) (tn 4 (kj (decide (((idxB part 64)-1:Int)>0)) (tn 2 (hn (λh=>by have j0:=h.2;have j0p:=of_decide_eq_true j0;exact(wrE (((idxB part 64)-1)-1) (((idxB part 64)-1)-1) kv)) (hp (λh=>by have j0:=h.2;have j0p:=of_decide_eq_true j0;exact(ib part (((idxB part 64)-1)-1) kv)) (tn 1 z)))) z z))))) kx ?_;refine CS (λh3=>?_) (λh3=>?_)
   ·obtain⟨h3a,h3o⟩:=Va9 h3
    have h3ap:=of_decide_eq_true h3a
    have h3op:=bne_iff_ne.1 h3o;refine GO (kb h3 (tn 3 z)) kx ?_;exact EN kx
   ·have:=Vfh part ((idxB part 64)+1) gk
    have:=Vag part (Int.toNat ((idxB part 64)+1)) (Int.toNat (nmeS part ((idxB part 64)+1)))
    have:=Vag part 0 (Int.toNat ((idxB part 64)-1))
    have:=Vf8 (ByteArray.extract part 0 (Int.toNat ((idxB part 64)-1))) (⟨#[32]⟩)
    have:=Vag part (Int.toNat (nmeS part ((idxB part 64)+1))) (Za part)
    have:=Vf8 (ByteArray.extract part (Int.toNat (nmeS part ((idxB part 64)+1))) (Za part)) (⟨#[32]⟩);refine GO (kb h3 (tn 2 (kn (wrE ((idxB part 64)+1) ((idxB part 64)+1) kv) (kc (Vnj part ((idxB part 64)+1) ky ky ky) (tn 3 (kn (wrE ((idxB part 64)+1) ((idxB part 64)+1) kv) (tn 1 (kp (show 0<=((idxB part 64)+1:Int)/\((idxB part 64)+1:Int)<=nmeS part ((idxB part 64)+1)/\nmeS part ((idxB part 64)+1)<=((Za part:Nat):Int)from(by first|omega|(simp only[Va6,true_and];omega))) (tn 4 (kp (show 0<=(0:Int)/\(0:Int)<=(idxB part 64)-1/\(idxB part 64)-1<=((Za part:Nat):Int)from(by first|omega|(simp only[Va6,true_and];omega))) (kc (Vhu (ByteArray.extract part 0 (Int.toNat ((idxB part 64)-1))) (⟨#[32]⟩) ky ky (by repeat (first|assumption|(with_reducible apply A7.ext)|(with_reducible apply A7.trm)|exact A7.lit gj))) (tn 4 (kp (show 0<=(nmeS part ((idxB part 64)+1):Int)/\(nmeS part ((idxB part 64)+1):Int)<=((Za part:Nat):Int)/\((Za part:Nat):Int)<=((Za part:Nat):Int)from(by first|omega|(simp only[Va6,true_and];omega))) (kc (Vhu (ByteArray.extract part (Int.toNat (nmeS part ((idxB part 64)+1))) (Za part)) (⟨#[32]⟩) ky ky (by repeat (first|assumption|(with_reducible apply A7.ext)|(with_reducible apply A7.trm)|exact A7.lit gj))) (tn 4 (kc (Vic (ByteArray.extract part (Int.toNat ((idxB part 64)+1)) (Int.toNat (nmeS part ((idxB part 64)+1)))) ky) (tn 1 z))))))))))))))))) kx ?_;refine CS (λh4=>?_) (λh4=>?_)
    ·have h4n:=nott h4;refine GO (kb h4 (tn 3 z)) kx ?_;exact EN kx
    ·have h4n:=notf h4;refine GO (kb h4 (tn 3 z)) kx ?_;exact EN kx
  ·refine GO (kb h2 (tn 3 (kj (decide ((idxB part 64:Int)>0)) (tn 2 (hn (λh=>by have j0:=h.2;have j0p:=of_decide_eq_true j0;exact(wrE ((idxB part 64)-1) ((idxB part 64)-1) kv)) (hp (λh=>by have j0:=h.2;have j0p:=of_decide_eq_true j0;exact(ib part ((idxB part 64)-1) kv)) (tn 1 z)))) z z))) kx ?_;refine CS (λh5=>?_) (λh5=>?_)
   ·obtain⟨h5a,h5o⟩:=Va9 h5
    have h5ap:=of_decide_eq_true h5a
    have h5op:=bne_iff_ne.1 h5o;refine GO (kb h5 (tn 3 z)) kx ?_;exact EN kx
   ·have:=Vfh part ((idxB part 64)+1) gk
    have:=Vag part (Int.toNat ((idxB part 64)+1)) (Int.toNat (nmeS part ((idxB part 64)+1)))
    have:=Vag part 0 (Int.toNat (idxB part 64))
    have:=Vf8 (ByteArray.extract part 0 (Int.toNat (idxB part 64))) (⟨#[32]⟩)
    have:=Vag part (Int.toNat (nmeS part ((idxB part 64)+1))) (Za part)
    have:=Vf8 (ByteArray.extract part (Int.toNat (nmeS part ((idxB part 64)+1))) (Za part)) (⟨#[32]⟩);refine GO (kb h5 (tn 2 (kn (wrE ((idxB part 64)+1) ((idxB part 64)+1) kv) (kc (Vnj part ((idxB part 64)+1) ky ky ky) (tn 3 (kn (wrE ((idxB part 64)+1) ((idxB part 64)+1) kv) (tn 1 (kp (show 0<=((idxB part 64)+1:Int)/\((idxB part 64)+1:Int)<=nmeS part ((idxB part 64)+1)/\nmeS part ((idxB part 64)+1)<=((Za part:Nat):Int)from(by first|omega|(simp only[Va6,true_and];omega))) (tn 4 (kp (show 0<=(0:Int)/\(0:Int)<=idxB part 64/\idxB part 64<=((Za part:Nat):Int)from(by first|omega|(simp only[Va6,true_and];omega))) (kc (Vhu (ByteArray.extract part 0 (Int.toNat (idxB part 64))) (⟨#[32]⟩) ky ky (by repeat (first|assumption|(with_reducible apply A7.ext)|(with_reducible apply A7.trm)|exact A7.lit gj))) (tn 4 (kp (show 0<=(nmeS part ((idxB part 64)+1):Int)/\(nmeS part ((idxB part 64)+1):Int)<=((Za part:Nat):Int)/\((Za part:Nat):Int)<=((Za part:Nat):Int)from(by first|omega|(simp only[Va6,true_and];omega))) (kc (Vhu (ByteArray.extract part (Int.toNat (nmeS part ((idxB part 64)+1))) (Za part)) (⟨#[32]⟩) ky ky (by repeat (first|assumption|(with_reducible apply A7.ext)|(with_reducible apply A7.trm)|exact A7.lit gj))) (tn 4 (kc (Vic (ByteArray.extract part (Int.toNat ((idxB part 64)+1)) (Int.toNat (nmeS part ((idxB part 64)+1)))) ky) (tn 1 z))))))))))))))))) kx ?_;refine CS (λh6=>?_) (λh6=>?_)
    ·have h6n:=nott h6;refine GO (kb h6 (tn 3 z)) kx ?_;exact EN kx
    ·have h6n:=notf h6;refine GO (kb h6 (tn 3 z)) kx ?_;exact EN kx
def nmdP(s:ByteArray)(i:Int):(DInline×Int):=cond (cond (decide ((i+1:Int)>=((Za s:Nat):Int))) true (cond (((byt s (Int.toNat (i+1)):Nat):Int) !=94) (((byt s (Int.toNat (i+1)):Nat):Int) !=35) false)) (DInline.mk 0 (⟨#[]⟩) (⟨#[]⟩) (⟨#[]⟩) (DAttr.mk (⟨#[]⟩) ([]) ([])) ([]) ([]) ([]),0) (cond (!namA (ByteArray.extract s (Int.toNat (i+2)) (Int.toNat (nmeS s (i+2))))) (DInline.mk 0 (⟨#[]⟩) (⟨#[]⟩) (⟨#[]⟩) (DAttr.mk (⟨#[]⟩) ([]) ([])) ([]) ([]) ([]),0) (cond (cond (((byt s (Int.toNat (i+1)):Nat):Int)==94) (hpxB (ByteArray.extract s (Int.toNat (nmeS s (i+2))) (Za s)) (⟨#[93]⟩)) false) (DInline.mk 12 (ByteArray.extract s (Int.toNat (i+2)) (Int.toNat (nmeS s (i+2)))) (⟨#[]⟩) (⟨#[]⟩) (DAttr.mk (⟨#[]⟩) ([]) ([])) ([]) ([]) ([]),(nmeS s (i+2))+1) (cond (cond (((byt s (Int.toNat (i+1)):Nat):Int)==35) (hpxB (ByteArray.extract s (Int.toNat (nmeS s (i+2))) (Za s)) (⟨#[93]⟩)) false) (DInline.mk 14 (ByteArray.extract s (Int.toNat (i+2)) (Int.toNat (nmeS s (i+2)))) (⟨#[]⟩) (⟨#[]⟩) (DAttr.mk (⟨#[]⟩) ([]) ([])) ([]) ([]) ([]),(nmeS s (i+2))+1) (cond (cond (((byt s (Int.toNat (i+1)):Nat):Int)==35) (hpxB (ByteArray.extract s (Int.toNat (nmeS s (i+2))) (Za s)) (⟨#[32,112,97,103,101,93]⟩)) false) (DInline.mk 14 (ByteArray.extract s (Int.toNat (i+2)) (Int.toNat (nmeS s (i+2)))) (⟨#[]⟩) (⟨#[112,97,103,101]⟩) (DAttr.mk (⟨#[]⟩) ([]) ([])) ([]) ([]) ([]),(nmeS s (i+2))+6) (DInline.mk 0 (⟨#[]⟩) (⟨#[]⟩) (⟨#[]⟩) (DAttr.mk (⟨#[]⟩) ([]) ([])) ([]) ([]) ([]),0)))))
theorem nmdP_to(s:ByteArray)(i:Int)(hs:s.size<=1073741824)(h0:0<=i)(h1:i<s.size):Va2 Tryz.prog 141 [(jS s),(jI i)] [] [] (.av (.tup [(Vap ((nmdP s i).1)),(vI ((nmdP s i).2))])) [] []:=by
 refine BEG (λr:(DInline×Int)=>(.av (.tup [(Vap r.1),(vI r.2)]))) (nmdP s i) Tryz.func141 kx ?_;refine UF (nmdP.eq_1 ..) ?_;refine GO (tn 3 (kn (wrE (i+1) (i+1) kv) (tn 4 (kj (decide ((i+1:Int)>=((Za s:Nat):Int))) z (tn 2 (hn (λh=>by have j0:=h.2;have j0p:=of_decide_eq_false j0;exact(wrE (i+1) (i+1) kv)) (hp (λh=>by have j0:=h.2;have j0p:=of_decide_eq_false j0;exact(ib s (i+1) kv)) (tn 2 (kj (((byt s (Int.toNat (i+1)):Nat):Int) !=94) (tn 2 (hn (λh=>by have j0:=h.1.2;have j0p:=of_decide_eq_false j0;have j1:=h.2;have j1p:=bne_iff_ne.1 j1;exact(wrE (i+1) (i+1) kv)) (hp (λh=>by have j0:=h.1.2;have j0p:=of_decide_eq_false j0;have j1:=h.2;have j1p:=bne_iff_ne.1 j1;exact(ib s (i+1) kv)) (tn 1 z)))) z z))))) z)))) kx ?_;refine CS (λh1=>?_) (λh1=>?_)
 ·refine GO (kb h1 (tn 3 z)) kx ?_;exact EN kx
 ·obtain⟨h1a,h1o⟩:=Vae h1
  have h1ap:=of_decide_eq_false h1a
  have:=Vfh s (i+2) gk
  have:=Vag s (Int.toNat (i+2)) (Int.toNat (nmeS s (i+2)));refine GO (kb h1 (tn 2 (kn (wrE (i+2) (i+2) kv) (kc (Vnj s (i+2) ky ky ky) (tn 3 (kn (wrE (i+2) (i+2) kv) (tn 1 (kp (show 0<=(i+2:Int)/\(i+2:Int)<=nmeS s (i+2)/\nmeS s (i+2)<=((Za s:Nat):Int)from(by first|omega|(simp only[Va6,true_and];omega))) (tn 2 (kc (Vic (ByteArray.extract s (Int.toNat (i+2)) (Int.toNat (nmeS s (i+2)))) ky) (tn 1 z))))))))))) kx ?_;refine CS (λh2=>?_) (λh2=>?_)
  ·have h2n:=nott h2;refine GO (kb h2 (tn 3 z)) kx ?_;exact EN kx
  ·have h2n:=notf h2
   have:=Vag s (Int.toNat (nmeS s (i+2))) (Za s);refine GO (kb h2 (tn 2 (kp (show 0<=(nmeS s (i+2):Int)/\(nmeS s (i+2):Int)<=((Za s:Nat):Int)/\((Za s:Nat):Int)<=((Za s:Nat):Int)from(by first|omega|(simp only[Va6,true_and];omega))) (tn 3 (kn (wrE (i+1) (i+1) kv) (kp (ib s (i+1) kv) (tn 2 (kj (((byt s (Int.toNat (i+1)):Nat):Int)==94) (tn 1 (kc (Vcb (ByteArray.extract s (Int.toNat (nmeS s (i+2))) (Za s)) (⟨#[93]⟩)) z)) z (tn 1 z))))))))) kx ?_;refine CS (λh3=>?_) (λh3=>?_)
   ·obtain⟨h3a,h3o⟩:=Va9 h3
    have h3ap:=eq_of_beq h3a;refine GO (kb h3 (tn 3 (kn (wrE ((nmeS s (i+2))+1) ((nmeS s (i+2))+1) kv) (tn 2 z)))) kx ?_;exact EN kx
   ·refine GO (kb h3 (tn 2 (kn (wrE (i+1) (i+1) kv) (kp (ib s (i+1) kv) (tn 2 (kj (((byt s (Int.toNat (i+1)):Nat):Int)==35) (tn 1 (kc (Vcb (ByteArray.extract s (Int.toNat (nmeS s (i+2))) (Za s)) (⟨#[93]⟩)) z)) z (tn 1 z))))))) kx ?_;refine CS (λh4=>?_) (λh4=>?_)
    ·obtain⟨h4a,h4o⟩:=Va9 h4
     have h4ap:=eq_of_beq h4a;refine GO (kb h4 (tn 3 (kn (wrE ((nmeS s (i+2))+1) ((nmeS s (i+2))+1) kv) (tn 2 z)))) kx ?_;exact EN kx
    ·refine GO (kb h4 (tn 2 (kn (wrE (i+1) (i+1) kv) (kp (ib s (i+1) kv) (tn 2 (kj (((byt s (Int.toNat (i+1)):Nat):Int)==35) (tn 1 (kc (Vcb (ByteArray.extract s (Int.toNat (nmeS s (i+2))) (Za s)) (⟨#[32,112,97,103,101,93]⟩)) z)) z (tn 1 z))))))) kx ?_;refine CS (λh5=>?_) (λh5=>?_)
     ·obtain⟨h5a,h5o⟩:=Va9 h5
      have h5ap:=eq_of_beq h5a;refine GO (kb h5 (tn 3 (kn (wrE ((nmeS s (i+2))+6) ((nmeS s (i+2))+6) kv) (tn 2 z)))) kx ?_;exact EN kx
     ·refine GO (kb h5 (tn 3 z)) kx ?_;exact EN kx
def autP_L1(s:ByteArray)(i:Int)(v6:Int)(k0:Int->(DInline×Int)):Nat->Int->(DInline×Int)
 |0,_=>default
 |n1+1,w6=>cond (cond (cond (cond (cond (decide ((w6:Int)<((Za s:Nat):Int))) (((byt s (Int.toNat w6):Nat):Int) !=32) false) (((byt s (Int.toNat w6):Nat):Int) !=10) false) (((byt s (Int.toNat w6):Nat):Int) !=60) false) (((byt s (Int.toNat w6):Nat):Int) !=62) false) (autP_L1 s i v6 k0 n1 (w6+1)) (cond (cond (decide ((w6:Int)>=((Za s:Nat):Int))) true (((byt s (Int.toNat w6):Nat):Int) !=62)) (DInline.mk 0 (⟨#[]⟩) (⟨#[]⟩) (⟨#[]⟩) (DAttr.mk (⟨#[]⟩) ([]) ([])) ([]) ([]) ([]),0) (DInline.mk 16 (⟨#[]⟩) (ByteArray.extract s (Int.toNat (i+1)) (Int.toNat w6)) (⟨#[]⟩) (DAttr.mk (⟨#[]⟩) ([]) ([])) ([]) ([]) ([]),w6+1))
def autP_L0(s:ByteArray)(i:Int):Nat->Int->(DInline×Int)
 |0,_=>default
 |n0+1,v6=>cond (cond (decide ((v6:Int)<((Za s:Nat):Int))) (cond (cond (decide (((byt s (Int.toNat v6):Nat):Int)>=97)) (decide (((byt s (Int.toNat v6):Nat):Int)<=122)) false) true (cond (decide (((byt s (Int.toNat v6):Nat):Int)>=65)) (decide (((byt s (Int.toNat v6):Nat):Int)<=90)) false)) false) (autP_L0 s i n0 (v6+1)) (cond (cond (cond (cond (decide (((v6-i)-1:Int)<2)) true (decide (((v6-i)-1:Int)>20))) true (decide ((v6:Int)>=((Za s:Nat):Int)))) true (((byt s (Int.toNat v6):Nat):Int) !=58)) (DInline.mk 0 (⟨#[]⟩) (⟨#[]⟩) (⟨#[]⟩) (DAttr.mk (⟨#[]⟩) ([]) ([])) ([]) ([]) ([]),0) (autP_L1 s i v6 (autP_L0 s i n0) ((s.size-Int.toNat v6)+1) v6))
def autP(s:ByteArray)(i:Int):(DInline×Int):=autP_L0 s i ((s.size-Int.toNat (i+1))+1) (i+1)
theorem autP_to(s:ByteArray)(i:Int)(hs:s.size<=1073741824)(h0:0<=i)(h1:i<s.size):Va2 Tryz.prog 139 [(jS s),(jI i)] [] [] (.av (.tup [(Vap ((autP s i).1)),(vI ((autP s i).2))])) [] []:=by
 refine BEG (λr:(DInline×Int)=>(.av (.tup [(Vap r.1),(vI r.2)]))) (autP s i) Tryz.func139 kx ?_;refine UF (autP.eq_1 ..) ?_;refine GO (tn 3 (kn (wrE (i+1) (i+1) kv) (tn 1 z))) kx ?_;refine LP (λN M S=>∃ v6:Int,(i+1<=v6)/\(v6<=s.size)/\(s.size-Int.toNat v6<N)/\M=autP_L0 s i N v6/\S=(sx 112 [(0,(jS s)),(1,(jI i)),(4,(.ptr 4 0)),(6,(jI v6))] [(4,(.cells 42 [(jI 0),(jS (⟨#[]⟩)),(jS (⟨#[]⟩)),(jS (⟨#[]⟩)),(jS (⟨#[]⟩)),.nil,.nil,.nil,.nil,.nil]))] [])) kx ⟨_,by first|omega|assumption|(simp only[Va6];omega)|(simp;done)|(simp;omega),by first|omega|assumption|(simp only[Va6];omega)|(simp;done)|(simp;omega),by omega,rfl,rfl⟩ (WK kx) ?_;rintro n0 M S ⟨v6,hv,hb,hF0,rfl,rfl⟩;obtain⟨n0,rfl⟩:∃ k,n0=k+1:=⟨n0-1,by omega⟩
 refine UF (autP_L0.eq_2 ..) ?_;refine GO (tn 5 (kj (decide ((v6:Int)<((Za s:Nat):Int))) (tn 2 (hp (λh=>by have j0:=h.2;have j0p:=of_decide_eq_true j0;exact(ib s v6 kv)) (tn 2 (kj (decide (((byt s (Int.toNat v6):Nat):Int)>=97)) (tn 2 (hp (λh=>by have j0:=h.1.2;have j0p:=of_decide_eq_true j0;have j1:=h.2;have j1p:=of_decide_eq_true j1;exact(ib s v6 kv)) (tn 1 z))) z (tn 1 (kj (cond (decide (((byt s (Int.toNat v6):Nat):Int)>=97)) (decide (((byt s (Int.toNat v6):Nat):Int)<=122)) false) z (tn 2 (hp (λh=>by have j0:=h.1.2;have j0p:=of_decide_eq_true j0;have j1:=h.2;exact(ib s v6 kv)) (tn 2 (kj (decide (((byt s (Int.toNat v6):Nat):Int)>=65)) (tn 2 (hp (λh=>by have j0:=h.1.1.2;have j0p:=of_decide_eq_true j0;have j1:=h.1.2;have j2:=h.2;have j2p:=of_decide_eq_true j2;exact(ib s v6 kv)) (tn 1 z))) z z)))) z)))))) z z)) kx ?_;refine CS (λh1=>?_) (λh1=>?_)
 ·obtain⟨h1a,h1o⟩:=Va9 h1
  have h1ap:=of_decide_eq_true h1a;refine GO (kb h1 (tn 1 (kn (wrE (v6+1) (v6+1) kv) (tn 1 z)))) kx ?_;exact AG ⟨_,by first|omega|assumption|(simp only[Va6];omega)|(simp;done)|(simp;omega),by first|omega|assumption|(simp only[Va6];omega)|(simp;done)|(simp;omega),by omega,rfl,rfl⟩ (WK kx) kx (Zi _)
 ·refine GO (kb h1 z) kx ?_;refine OUT (tn 2 (kn (wrE (v6-i) (v6-i) kv) (kn (wrE ((v6-i)-1) ((v6-i)-1) kv) (tn 4 (kj (decide (((v6-i)-1:Int)<2)) z (tn 2 z) (tn 1 (kj (cond (decide (((v6-i)-1:Int)<2)) true (decide (((v6-i)-1:Int)>20))) z (tn 4 z) (tn 1 (kj (cond (cond (decide (((v6-i)-1:Int)<2)) true (decide (((v6-i)-1:Int)>20))) true (decide ((v6:Int)>=((Za s:Nat):Int)))) z (tn 2 (hp (λh=>by have j0:=h.2;obtain⟨j0a,j0o⟩:=Vae j0;obtain⟨j0aa,j0ao⟩:=Vae j0a;have j0aap:=of_decide_eq_false j0aa;have j0aop:=of_decide_eq_false j0ao;have j0op:=of_decide_eq_false j0o;exact(ib s v6 kv)) (tn 1 z))) z))))))))) kx ?_;refine CS (λh2=>?_) (λh2=>?_)
  ·refine GO (kb h2 (tn 3 z)) kx ?_;exact EN kx
  ·obtain⟨h2a,h2o⟩:=Vae h2;obtain⟨h2aa,h2ao⟩:=Vae h2a;obtain⟨h2aaa,h2aao⟩:=Vae h2aa
   have h2aaap:=of_decide_eq_false h2aaa
   have h2aaop:=of_decide_eq_false h2aao
   have h2aop:=of_decide_eq_false h2ao
   have h2op:=Vah h2o;refine GO (kb h2 z) kx ?_;refine LP (λN M S=>∃ w6:Int,(i+1<=w6)/\(w6<=s.size)/\(s.size-Int.toNat w6<N)/\M=autP_L1 s i v6 (autP_L0 s i n0) N w6/\S=(sx 112 [(0,(jS s)),(1,(jI i)),(4,(.ptr 4 0)),(6,(jI w6))] [(4,(.cells 42 [(jI 0),(jS (⟨#[]⟩)),(jS (⟨#[]⟩)),(jS (⟨#[]⟩)),(jS (⟨#[]⟩)),.nil,.nil,.nil,.nil,.nil]))] [])) kx ⟨_,by first|omega|assumption|(simp only[Va6];omega)|(simp;done)|(simp;omega),by first|omega|assumption|(simp only[Va6];omega)|(simp;done)|(simp;omega),by omega,rfl,rfl⟩ (WK kx) ?_;rintro n1 M S ⟨w6,hv,hb,hF1,rfl,rfl⟩;obtain⟨n1,rfl⟩:∃ k,n1=k+1:=⟨n1-1,by omega⟩
   refine UF (autP_L1.eq_2 ..) ?_;refine GO (tn 5 (kj (decide ((w6:Int)<((Za s:Nat):Int))) (tn 2 (hp (λh=>by have j0:=h.2;have j0p:=of_decide_eq_true j0;exact(ib s w6 kv)) (tn 1 z))) z (tn 1 (kj (cond (decide ((w6:Int)<((Za s:Nat):Int))) (((byt s (Int.toNat w6):Nat):Int) !=32) false) (tn 2 (hp (λh=>by have j0:=h.2;obtain⟨j0a,j0o⟩:=Va9 j0;have j0ap:=of_decide_eq_true j0a;have j0op:=bne_iff_ne.1 j0o;exact(ib s w6 kv)) (tn 1 z))) z (tn 1 (kj (cond (cond (decide ((w6:Int)<((Za s:Nat):Int))) (((byt s (Int.toNat w6):Nat):Int) !=32) false) (((byt s (Int.toNat w6):Nat):Int) !=10) false) (tn 2 (hp (λh=>by have j0:=h.2;obtain⟨j0a,j0o⟩:=Va9 j0;obtain⟨j0aa,j0ao⟩:=Va9 j0a;have j0aap:=of_decide_eq_true j0aa;have j0aop:=bne_iff_ne.1 j0ao;have j0op:=bne_iff_ne.1 j0o;exact(ib s w6 kv)) (tn 1 z))) z (tn 1 (kj (cond (cond (cond (decide ((w6:Int)<((Za s:Nat):Int))) (((byt s (Int.toNat w6):Nat):Int) !=32) false) (((byt s (Int.toNat w6):Nat):Int) !=10) false) (((byt s (Int.toNat w6):Nat):Int) !=60) false) (tn 2 (hp (λh=>by have j0:=h.2;obtain⟨j0a,j0o⟩:=Va9 j0;obtain⟨j0aa,j0ao⟩:=Va9 j0a;obtain⟨j0aaa,j0aao⟩:=Va9 j0aa;have j0aaap:=of_decide_eq_true j0aaa;have j0aaop:=bne_iff_ne.1 j0aao;have j0aop:=bne_iff_ne.1 j0ao;have j0op:=bne_iff_ne.1 j0o;exact(ib s w6 kv)) (tn 1 z))) z z)))))))) kx ?_;refine CS (λh3=>?_) (λh3=>?_)
   ·obtain⟨h3a,h3o⟩:=Va9 h3;obtain⟨h3aa,h3ao⟩:=Va9 h3a;obtain⟨h3aaa,h3aao⟩:=Va9 h3aa;obtain⟨h3aaaa,h3aaao⟩:=Va9 h3aaa
    have h3aaaap:=of_decide_eq_true h3aaaa
    have h3aaaop:=bne_iff_ne.1 h3aaao
    have h3aaop:=bne_iff_ne.1 h3aao
    have h3aop:=bne_iff_ne.1 h3ao
    have h3op:=bne_iff_ne.1 h3o;refine GO (kb h3 (tn 1 (kn (wrE (w6+1) (w6+1) kv) (tn 1 z)))) kx ?_;exact AG ⟨_,by first|omega|assumption|(simp only[Va6];omega)|(simp;done)|(simp;omega),by first|omega|assumption|(simp only[Va6];omega)|(simp;done)|(simp;omega),by omega,rfl,rfl⟩ (WK kx) kx (Zi _)
   ·refine GO (kb h3 z) kx ?_;refine OUT (tn 5 (kj (decide ((w6:Int)>=((Za s:Nat):Int))) z (tn 2 (hp (λh=>by have j0:=h.2;have j0p:=of_decide_eq_false j0;exact(ib s w6 kv)) (tn 1 z))) z)) kx ?_;refine CS (λh4=>?_) (λh4=>?_)
    ·refine GO (kb h4 (tn 3 z)) kx ?_;exact EN kx
    ·obtain⟨h4a,h4o⟩:=Vae h4
     have h4ap:=of_decide_eq_false h4a
     have h4op:=Vah h4o
     have:=Vag s (Int.toNat (i+1)) (Int.toNat w6);refine GO (kb h4 (tn 2 (kn (wrE (i+1) (i+1) kv) (tn 1 (kp (show 0<=(i+1:Int)/\(i+1:Int)<=w6/\w6<=((Za s:Nat):Int)from(by first|omega|(simp only[Va6,true_and];omega))) (tn 2 (kn (wrE (w6+1) (w6+1) kv) (tn 2 z)))))))) kx ?_;exact EN kx
def flkB(c:ByteArray)(before:Int)(after:Int):(Bool×Bool):=cond (cond (eqs c (⟨#[42]⟩)) (eqs c (⟨#[42]⟩)) (eqs c (⟨#[126]⟩))) (cond (!cond (decide ((after:Int)<0)) true (spcC after)) (cond (cond (!pncC after) true (cond (decide ((before:Int)<0)) true (spcC before))) true (pncC before)) false,cond (!cond (decide ((before:Int)<0)) true (spcC before)) (cond (cond (!pncC before) true (cond (decide ((after:Int)<0)) true (spcC after))) true (pncC after)) false) (cond (eqs c (⟨#[95]⟩)) (cond (cond (!cond (decide ((after:Int)<0)) true (spcC after)) (cond (cond (!pncC after) true (cond (decide ((before:Int)<0)) true (spcC before))) true (pncC before)) false) (cond (!cond (!cond (decide ((before:Int)<0)) true (spcC before)) (cond (cond (!pncC before) true (cond (decide ((after:Int)<0)) true (spcC after))) true (pncC after)) false) true (pncC before)) false,cond (cond (!cond (decide ((before:Int)<0)) true (spcC before)) (cond (cond (!pncC before) true (cond (decide ((after:Int)<0)) true (spcC after))) true (pncC after)) false) (cond (!cond (!cond (decide ((after:Int)<0)) true (spcC after)) (cond (cond (!pncC after) true (cond (decide ((before:Int)<0)) true (spcC before))) true (pncC before)) false) true (pncC after)) false) (false,false))
theorem flkB_to(c:ByteArray)(before:Int)(after:Int):Va2 Tryz.prog 190 [(jS c),(jI before),(jI after)] [] [] (.av (.tup [(vB ((flkB c before after).1)),(vB ((flkB c before after).2))])) [] []:=by
 refine BEG (λr:(Bool×Bool)=>(.av (.tup [(vB r.1),(vB r.2)]))) (flkB c before after) Tryz.func190 kx ?_;refine UF (flkB.eq_1 ..) ?_;refine GO (tn 5 (kj (decide ((before:Int)<0)) z (tn 1 (kc (Vn3 before) z)) (tn 4 (kj (decide ((after:Int)<0)) z (tn 1 (kc (Vn3 after) z)) (tn 4 (kj (!cond (decide ((after:Int)<0)) true (spcC after)) (tn 1 (kc (Vfg after) (tn 2 (kj (!pncC after) z (tn 1 z) (tn 1 (kj (cond (!pncC after) true (cond (decide ((before:Int)<0)) true (spcC before))) z (tn 1 (kc (Vfg before) z)) z)))))) z (tn 4 (kj (!cond (decide ((before:Int)<0)) true (spcC before)) (tn 1 (kc (Vfg before) (tn 2 (kj (!pncC before) z (tn 1 z) (tn 1 (kj (cond (!pncC before) true (cond (decide ((after:Int)<0)) true (spcC after))) z (tn 1 (kc (Vfg after) z)) z)))))) z (tn 4 (ks (eqs c (⟨#[42]⟩)) [53] z (tn 2 z) z)))))))))) kx ?_;refine CS (λh1=>?_) (λh1=>?_)
 ·refine GO (kb h1 (tn 4 z)) kx ?_;exact EN kx
 ·refine GO (kb h1 (tn 2 z)) kx ?_;refine CS (λh2=>?_) (λh2=>?_)
  ·refine GO (kb h2 (tn 2 (kj (cond (!cond (decide ((after:Int)<0)) true (spcC after)) (cond (cond (!pncC after) true (cond (decide ((before:Int)<0)) true (spcC before))) true (pncC before)) false) (tn 3 (kj (!cond (!cond (decide ((before:Int)<0)) true (spcC before)) (cond (cond (!pncC before) true (cond (decide ((after:Int)<0)) true (spcC after))) true (pncC after)) false) z (tn 1 (kc (Vfg before) z)) z)) z (tn 2 (kj (cond (!cond (decide ((before:Int)<0)) true (spcC before)) (cond (cond (!pncC before) true (cond (decide ((after:Int)<0)) true (spcC after))) true (pncC after)) false) (tn 3 (kj (!cond (!cond (decide ((after:Int)<0)) true (spcC after)) (cond (cond (!pncC after) true (cond (decide ((before:Int)<0)) true (spcC before))) true (pncC before)) false) z (tn 1 (kc (Vfg after) z)) z)) z (tn 2 z)))))) kx ?_;exact EN kx
  ·refine GO (kb h2 (tn 2 z)) kx ?_;exact EN kx
end Go.Proofs.YthbpjmogdonlkaaGreatDoor
namespace Go.Eng
section
variable {P:Program} {α:Type}
def UI(P:Program)(c:Code)(ks:List Fm)(K:α->Exit->St->Prop)(M:α):Nat->St->Prop
 |0,_=>False
 |n+1,S=>W P c (Voi (UI P c ks K M n) (Kont P (K M) ks)) S
def KU(P:Program)(c:Code)(ks:List Fm)(K:α->Exit->St->Prop)(n:Nat)(M:α):Exit->St->Prop:=
 Voi (UI P c ks K M n) (Kont P (K M) ks)
theorem UN{K:α->Exit->St->Prop}{M:α}{X:Cf}(S0:St)(n:Nat)(hX:isLp X=true)(hw:Weak (stOf X) S0)(h:Nx P (KU P (lpC X) (lpK X) K n) M (start (lpC X) S0)):Nx P K M X:=by
 unfold isLp at hX
 split at hX
 ·rename_i c0 o0 c ks S;refine⟨W_loop (I:=λn S=>UI P c ks K M n S) (n:=n+1) hw h.x (λn S' hI=>?_)⟩;cases n with
  |zero=>exact hI.elim
  |succ n=>
   refine Vfv hI (λe S2 hq=>?_);cases e with
   |normal=>exact⟨n,S2,Zi n,λ_ _ _ h=>h,hq⟩
   |exit id=>exact hq
   |goto l=>exact hq
   |ret=>exact hq
   |panic ch=>exact hq
   |outgrown=>exact hq
 ·simp at hX
theorem UA{c:Code}{ks:List Fm}{K:α->Exit->St->Prop}{M:α}{X:Cf}{n:Nat}(S0:St)(hX:Vnr X=some .normal)(hw:Weak (stOf X) S0)(h:Nx P (KU P c ks K n) M (start c S0)):Nx P (KU P c ks K (n+1)) M X:=by
 unfold Vnr at hX
 split at hX
 ·simp only[Zd]at hX;subst hX;refine⟨?_⟩
  have h1:W P c (KU P c ks K n M) S0:=h.x;exact Vai hw h1
 ·simp at hX
theorem UO{c:Code}{ks:List Fm}{K:α->Exit->St->Prop}{M:α}{X:Cf}{n:Nat}(oc:OC)(h:csOf (outX P ks X oc.o)=some oc.c)(hn:Nx P K M (outX P ks X oc.o)):Nx P (KU P c ks K n) M X:=by
 obtain⟨hn⟩:=hn;unfold outX at h hn
 split at h
 ·simp[csOf]at h
 ·rename_i c0 o0 e S hne;simp only at hn;cases hk:goK P ks (some ([],oc.o,.fin e S))with
  |none=>rw[hk]at h;simp[csOf]at h
  |some r=>
   obtain⟨c2,o2,out2⟩:=r;rw[hk]at h hn;unfold csOf at h
   split at h
   ·rename_i e2;simp only[Zd,Zh]at e2 h;obtain⟨rfl,rfl,rfl⟩:=e2;subst h;obtain⟨q1,q2⟩:=Vaq (K M) ks _ _ _ _ _ _ hk (oc.h trivial) hn;exact⟨skipS q2 (by rintro rfl;first|exact hne rfl|exact hne _ rfl|exact hne _ _ rfl)⟩
   ·simp at h
 ·simp[csOf]at h
end
end Go.Eng
namespace Go.Eng
variable {P:Program}
theorem Vbv{ops:Array Oper}{o:Oper}{rest:List Oper}{Q:St->Prop}{S:St}{r:Res}(hg:o.guard=none)(hs:Sound P o S r)(hok:r.ok)(h:WO P ops rest Q (r.st.put o.dst r.v)):WO P ops (o::rest) Q S:=by
 refine WO_op (λG w a hr=>Vao hg a) (λG w a hr Q' next hn=>?_) h;obtain⟨nx,v,w',G',h1,h2,h3,h4,h5,h6⟩:=hs hok G w a hr;unfold Oper.wp;rw[h1];rcases h2 with rfl|⟨rfl,rfl⟩
 ·rw[Oper.upon_value];exact hn G' _ w' h3 (h4.put o.dst h5) h6
 ·rw[Oper.upon_skip];exact hn G' _ w' h3 (h4.put o.dst h5) h6
theorem run_eq_nil{t e:TypeId}(ht:P.underlying t=some (.slice e))(w:World)(a:Option Addr)(n c n' c':Nat):(binOp .eql t (.slice a n c) (.slice none n' c')).run P w=.ok (.bool a.isNone) w:=by
 have h:(Op.equal t (.slice a n c) (.slice none n' c')).run P w=.ok a.isNone w:=by
  rw[show Op.equal t (.slice a n c) (.slice none n' c')=Op.equalIn (9999+1) t (.slice a n c) (.slice none n' c')from rfl];unfold Op.equalIn;cases a <;>simp[Va0 ht]
 simp[binOp,h]
theorem WO_isnil{ops:Array Oper}{o:Oper}{rest:List Oper}{Q:St->Prop}{S:St}{t t' e:TypeId}{x:Operand}{l:List AV}(ho:o.op=.binOp .eql t x (.const (.slice none 0 0)) t')(hg:o.guard=none)(ht:P.underlying t=some (.slice e))(hx:S.ev x=.av (.sl l))
  (h:∀ b:Bool,(b=true->l=[])->WO P ops rest Q (S.put o.dst (.av (.val (.bool b))))):WO P ops (o::rest) Q S:=by
 intro more Q' G w a hr hq
 have hxr:=hr.ev x;rw[hx]at hxr;simp only[RepS,Rep]at hxr;obtain⟨ad,cap,es,sz,hu,h1,h2,h3,h4⟩:=hxr
 have hbl:ad.isNone=true->l=[]:=by
  intro hn
  have:es=[]:=h3 (by simpa using hn);subst this;exact List.length_eq_zero_iff.1 (by have:=h1.length;simpa using this.symm)
 have he:(execOp a.eval o).run P w=.ok (.value (.bool ad.isNone)) w:=by
  have e1:=run_eq_nil ht w ad l.length cap 0 0
  have e2:(eqGuard .eql t x (.const (.slice none 0 0)) (.slice ad l.length cap) (.slice none 0 0)).run P w=.ok () w:=by
   unfold eqGuard;simp
  have e3:a.eval (.const (.slice none 0 0))=.slice none 0 0:=rfl;simp only[execOp,ho,hu,e3,Sem.run_bind,e2,e1,Result.andThen_ok];rfl
 simp only[List.cons_append,wpList];rw[if_pos (Vao hg a)];refine .inl ?_;unfold Oper.wp;rw[he,Oper.upon_value];exact h ad.isNone hbl more Q' G w _ (hr.put o.dst ⟨rfl,rfl⟩) hq
theorem step_tok0{G:Gh}{w:World}(hw:Wf G w)(o:Obj){k:Key}(hk0:0<k.2)(n:Nat):
  Step G w ((G.setU w.heap.size n).next k w.heap.size) (w.alloc o)/\Wf ((G.setU w.heap.size n).next k w.heap.size) (w.alloc o)/\
   ∀κ,κ≠k->Keep G w ((G.setU w.heap.size n).next k w.heap.size) (w.alloc o) κ:=by
 obtain⟨s1,s2,s3⟩:=Ve5 hw o n
 have how:∀ κ b,(if κ=k then some w.heap.size else G.ow κ)=some b->(κ=k/\b=w.heap.size)\/(κ≠k/\G.ow κ=some b):=by
  intro κ b h
  split at h
  ·rename_i hk;simp at h;exact .inl ⟨hk,h.symm⟩
  ·rename_i hk;exact .inr ⟨hk,h⟩
 have hkp:∀ κ,κ≠k->Keep G w ((G.setU w.heap.size n).next k w.heap.size) (w.alloc o) κ:=λκ hκ=>⟨by simp only[Gh.next];rw[if_neg hκ];rfl,λb hb=>(s3 κ).2 b hb⟩
 refine⟨⟨⟨s1.U,⟨s1.imm.cell,s1.imm.map,s1.imm.typ,s1.imm.frz,s1.imm.pln⟩,s1.size,s1.os,s1.tape,s1.output,s1.cp,λκ=>?_,λκ _ hg=>?_⟩,s1.stay,λκ b h=>?_⟩,⟨λκ κ' b h h'=>?_,λκ b h=>?_,s2.zero⟩,hkp⟩
 ·simp only[Gh.next,Gh.setU];split <;>omega
 ·refine hkp κ (λe=>?_);simp only[Gh.next,Gh.setU,if_pos e]at hg;omega
 ·rcases how κ b h with⟨_,rfl⟩|⟨_,h1⟩
  ·exact .inr (Zg _)
  ·exact .inl ⟨κ,h1⟩
 ·rcases how κ b h with⟨h1,h2⟩|⟨h1,h2⟩ <;>rcases how κ' b h' with⟨h3,h4⟩|⟨h3,h4⟩
  ·rw[h1,h3]
  ·have:=hw.lt κ' b h4;omega
  ·have:=hw.lt κ b h2;omega
  ·exact hw.inj κ κ' b h2 h4
 ·rcases how κ b h with⟨_,rfl⟩|⟨_,h1⟩
  ·simp
  ·have:=hw.lt κ b h1;simp;omega
theorem Voq{o:Oper}{S:St}{t e:TypeId}{sz bt:Nat}{z:Value}(d:Nat)(ho:o.op=.buildSlice t 0 #[])(ht:Vbb P t=some e)(hi:Vak P e=some (sz,bt,some z)):Sound P o S ⟨True,.own (d,e+1) (S.gen (d,e+1)+1) sz [],S.next (d,e+1)⟩:=by
 intro _ G w a hr
 have ht':P.underlying t=some (.slice e):=by
  unfold Vbb at ht;split at ht
  ·rename_i hh;simp at ht;subst ht;exact hh
  ·simp at ht
 have hk0:0<((d,e+1):Key).2:=Nat.succ_pos e
 have hk2:∀ κ:Key,κ.2=0->κ≠(d,e+1):=by intro κ h0 he;rw[he]at h0;simp at h0
 obtain⟨s1,s2,s3⟩:=step_tok0 hr.wf (.cells #[] e) hk0 0;refine⟨_,.slice (some ⟨w.heap.size,0,none⟩) 0 0,w.alloc (.cells #[] e),_,?_,.inl rfl,s1,hr.nextTok s1.toExt s2 (λκ h0=>s3 κ (hk2 κ h0)) (Veq (G:=G.setU _ _) hr.gn _ _),?_,λi _=>by simp only[Gh.next,Gh.setU];rw[if_neg (hk2 (i,0) rfl)]⟩
 ·simp only[execOp,ho,Instr.buildSlice,Sem.run_bind,Va0 ht',Result.andThen_ok,Vab hi];simp[newRow,Instr.fill];congr 2;apply Array.ext';simp
 ·have hg:G.gen (d,e+1)=S.gen (d,e+1):=hr.gn _;refine⟨hk0,by simp only[Gh.next,Gh.setU,if_true];omega,some ⟨w.heap.size,0,none⟩,0,[],rfl,by simp[RepL],by simp,by simp,by simp,by simp,.inl (by simp[Va1]),λ_=>.inr ⟨w.heap.size,0,#[],e,rfl,by simp[Gh.next],Vat w _,by simp,by simp[Gh.next,Gh.setU],rfl⟩⟩
theorem Vft{o:Oper}{S:St}{t e d:TypeId}{sz bt:Nat}{z:Value}{x y:Operand}{k:Key}{g:Nat}{l l':List AV}(ho:o.op=.call {callee:=.builtin .append,args:=#[x,y],argTypes:=#[t,t]})(hd:o.dst=some d)(hx:S.ev x=.own k g sz l)(hy:(S.ev y).toAV=some (.sl l'))(hk:e+1=k.2)
  (ht:Vbb P t=some e) (hi:Vak P e=some (sz,bt,some z)) (hz:z.cells.size=sz) (hbt:0<bt) (h2:Vdr P t=true):
  Vb6 P o S=some ⟨S.gen k=g/\Uni sz l'/\(l.length+l'.length)*bt<=140737488355328,.own k (g+1) sz (l++l'),S.next k⟩:=by
 unfold Vb6;rw[ho];simp only[Vdv];unfold Vfu;rw[ht,hd];simp only[hi];rw[if_pos ⟨hz,hbt,h2⟩];simp only[aSrc,hy,hx];rw[if_pos ⟨trivial,hk⟩]
end Go.Eng
namespace Go.Eng
variable {P:Program}
section
variable {t t2 ty e:TypeId} {sz bt:Nat} {z:Value}
end
theorem Vot(w:World)(arr arr':Array Value)(e:TypeId):(w.alloc (.cells arr e)).setRow w.heap.size arr'=w.alloc (.cells arr' e):=by
 have h:((w.alloc (.cells arr e)).setRow w.heap.size arr').heap=(w.alloc (.cells arr' e)).heap:=by
  apply Array.ext_getElem?;intro i
  by_cases hi:i=w.heap.size
  ·subst hi;rw[setRow_heap _ _ arr arr' e _ (Vat w _),Vat w _]
  ·rw[setRow_other _ _ _ _ hi];rcases Nat.lt_or_ge i w.heap.size with h|h
   ·rw[Vbe w _ h,Vbe w _ h]
   ·rw[Array.getElem?_eq_none (by simp;omega),Array.getElem?_eq_none (by simp;omega)]
 exact congrArg (λh=>({w with heap:=h}:World)) h
theorem Vem(w:World)(b:Nat)(arr arr':Array Value):(w.setRow b arr).setRow b arr'=w.setRow b arr':=by
 have h:((w.setRow b arr).setRow b arr').heap=(w.setRow b arr').heap:=by
  apply Array.ext_getElem?;intro i;simp only[World.setRow,Zv]
  split
  ·cases w.heap[i]? with
   |none=>rfl
   |some o=>cases o <;>rfl
  ·rfl
 exact congrArg (λh=>({w with heap:=h}:World)) h
theorem own_grown{G:Gh}{w:World}{S:St}{a:Act}{k:Key}{g sz e cap:Nat}{ad:Option Addr}{l l':List AV}{es es':List Value}(hr:Rel G w S a)(hk0:0<k.2)(hke:e+1=k.2)(hgg:G.gen k=g)
  (g2:RepL G.U w l es) (g3:∀ e∈es,e.cells.size=sz) (g5:Lies G.U w ad (Va1 es)) (hx:RepL G.U w l' es') (hu:Uni sz l') {nc:Nat} {rest:List Value} (q1:l.length+l'.length<=nc) (q2:rest.length=(nc-(l.length+l'.length))*sz):
  ∃G',Step G w G' (w.drew.alloc (.cells (Va1 es++Va1 es'++rest).toArray e))/\Rel G' (w.drew.alloc (.cells (Va1 es++Va1 es'++rest).toArray e)) (S.next k) a/\
   RepS G' (w.drew.alloc (.cells (Va1 es++Va1 es'++rest).toArray e)) (.own k (g+1) sz (l++l')) (.slice (some ⟨w.heap.size,0,none⟩) (l.length+l'.length) nc)/\∀ i,G'.ow (i,0)=G.ow (i,0):=by
 have hes':=hu.sizes hx
 have h1':=hx.cells hu
 have hkne:∀ i:Nat,((i,0):Key)≠k:=by intro i he;rw[<-he]at hk0;simp at hk0
 have hk2:∀ κ:Key,κ.2=0->κ≠k:=by intro κ h0 he;rw[he]at h0;omega
 have hl1:=Vac es g3
 have hl2:=Vac es' hes'
 have hll:=g2.length
 have hll':=hx.length
 have hcellsOld:∀ c∈Va1 es,c.oneCell'=true:=by
  rcases g5 with h|⟨_,_,_,_,h3⟩
  ·rw[h];simp
  ·intro c hc;obtain⟨j,hj⟩:=List.mem_iff_getElem?.1 hc;exact(h3 j c hj).2
 have hsz:∀ e∈es++es',e.cells.size=sz:=by
  intro e he;rcases Z5.1 he with h|h
  ·exact g3 e h
  ·exact hes' e h
 obtain⟨s1,s2,s3⟩:=step_tok hr.wf (.cells (Va1 es++Va1 es'++rest).toArray e) hk0 (Va1 (es++es')).length;refine⟨_,s1,hr.nextTok s1.toExt s2 (λκ h0=>s3 κ (hk2 κ h0)) (Veq (G:=G.setU _ _) hr.gn k _),?_,λi=>by simp only[Gh.next,Gh.setU];rw[if_neg (hkne i)]⟩;refine⟨hk0,by simp only[Gh.next,Gh.setU,if_true];omega,some ⟨w.heap.size,0,none⟩,nc,es++es',by simp,?_,hsz,by simpa using q1,by simp,by simp,?_,λ_=>.inr ⟨w.heap.size,0,_,e,rfl,by simp[Gh.next],Vat w.drew _,?_,?_,hke⟩⟩
 ·exact RepL.mono s1.U s1.imm _ _ (g2.append hx)
 ·have:=Vhr (w:=w.drew) (cs:=Va1 (es++es')) (rest:=rest) (e:=e) (n:=(Va1 (es++es')).length) G.U (by rw[Vaw];intro c hc;rcases Z5.1 hc with h|h;exact hcellsOld c h;exact h1' c h) rfl;rw[Vaw]at this ⊢;exact this
 ·simp only[Z6,List.size_toArray,Z0,hl1,hl2,hll,hll',q2];rw[<-Nat.add_mul, <-Nat.add_mul];exact Z9 _ kv
 ·simp only[Gh.next,Gh.setU,if_true,Z6];rw[Vac _ hsz];simp[hll,hll']
theorem own_room{G:Gh}{w:World}{S:St}{a:Act}{k:Key}{g sz cap b off e':Nat}{arr:Array Value}{l l':List AV}{es es':List Value}(hr:Rel G w S a)(hk0:0<k.2)(hgg:G.gen k=g)
  (g2:RepL G.U w l es) (g3:∀ e∈es,e.cells.size=sz) (g5:Lies G.U w (some ⟨b,off,none⟩) (Va1 es)) (o1:G.ow k=some b) (o2:w.heap[b]? =some (.cells arr e' (0,0))) (o3:off+cap*sz<=arr.size) (o4:G.U b=off+l.length*sz) (o5:e'+1=k.2)
  (hx:RepL G.U w l' es') (hu:Uni sz l') (hle:l.length+l'.length<=cap):
  ∃G',Step G w G' (w.setRow b (arr.toList.take (off+l.length*sz)++Va1 es'++arr.toList.drop (off+l.length*sz+(Va1 es').length)).toArray)/\
   Rel G' (w.setRow b (arr.toList.take (off+l.length*sz)++Va1 es'++arr.toList.drop (off+l.length*sz+(Va1 es').length)).toArray) (S.next k) a/\
   RepS G' (w.setRow b (arr.toList.take (off+l.length*sz)++Va1 es'++arr.toList.drop (off+l.length*sz+(Va1 es').length)).toArray) (.own k (g+1) sz (l++l')) (.slice (some ⟨b,off,none⟩) (l.length+l'.length) cap)/\∀ i,G'.ow (i,0)=G.ow (i,0):=by
 have hes':=hu.sizes hx
 have h1':=hx.cells hu
 have hkne:∀ i:Nat,((i,0):Key)≠k:=by intro i he;rw[<-he]at hk0;simp at hk0
 have hk2:∀ κ:Key,κ.2=0->κ≠k:=by intro κ h0 he;rw[he]at h0;omega
 have hl1:=Vac es g3
 have hl2:=Vac es' hes'
 have hll:=g2.length
 have hll':=hx.length
 have hcellsOld:∀ c∈Va1 es,c.oneCell'=true:=by
  rcases g5 with h|⟨_,_,_,_,h3⟩
  ·rw[h];simp
  ·intro c hc;obtain⟨j,hj⟩:=List.mem_iff_getElem?.1 hc;exact(h3 j c hj).2
 have hsz:∀ e∈es++es',e.cells.size=sz:=by
  intro e he;rcases Z5.1 he with h|h
  ·exact g3 e h
  ·exact hes' e h
 have hmul:(l.length+l'.length)*sz<=cap*sz:=Z9 _ hle;rw[Nat.add_mul]at hmul;obtain⟨s1,s2,s3⟩:=Voj hr.wf hk0 o1 o2 (off+(l.length+l'.length)*sz) (by rw[o4,Nat.add_mul];omega) (arr.toList.take (off+l.length*sz)++Va1 es'++arr.toList.drop (off+l.length*sz+(Va1 es').length)).toArray
  (fun j hj=>by
   rw[o4]at hj
   have:j<(arr.toList.take (off+l.length*sz)).length:=by simp;omega
   simp only[Z7];rw[Zz,Zu this,List.getElem?_take,if_pos hj]
   simp)
 refine⟨_,s1,hr.nextTok s1.toExt s2 (λκ h0=>s3 κ (hk2 κ h0)) (Veq (G:=G.setU _ _) hr.gn k _),?_,λi=>by simp only[Gh.next,Gh.setU];rw[if_neg (hkne i)]⟩;refine⟨hk0,by simp only[Gh.next,Gh.setU,if_true];omega,some ⟨b,off,none⟩,cap,es++es',by simp,RepL.mono s1.U s1.imm _ _ (g2.append hx),hsz,by simpa using hle,by simp,by simp,?_,λ_=>.inr ⟨b,off,_,e',rfl,by simp[Gh.next],setRow_heap w b arr _ e' _ o2,?_,?_,o5⟩⟩
 ·rw[Vaw]
  by_cases hzz:Va1 es++Va1 es'=[]
  ·exact .inl hzz
  ·refine .inr ⟨b,off,rfl,?_,λj v hj=>⟨?_,?_⟩⟩
   ·simp only[Gh.next,Gh.setU,if_true,Z0,hl1,hl2,hll,hll',Nat.add_mul];omega
   ·simp only[World.cell?,setRow_heap w b arr _ e' _ o2];rcases Nat.lt_or_ge j (Va1 es).length with hjl|hjl
    ·rw[Zu hjl]at hj
     have hold:w.cell? ⟨b,off+j,none⟩=some v:=by
      rcases g5 with h|⟨b',off',q1,q2,q3⟩
      ·rw[h]at hjl;simp at hjl
      ·simp at q1;obtain⟨rfl,rfl⟩:=q1;exact(q3 j v hj).1
     simp only[World.cell?,o2]at hold;simp at hold
     have hlt:off+j<off+l.length*sz:=by rw[hl1,hll]at hjl;omega
     have:off+j<(arr.toList.take (off+l.length*sz)).length:=by simp;omega
     simp only[Z7];rw[Zz,Zu this,List.getElem?_take,if_pos hlt];simpa using hold
    ·rw[List.getElem?_append_right hjl]at hj
     have htl:(arr.toList.take (off+l.length*sz)).length=off+l.length*sz:=by simp;omega
     have hjj:j-(Va1 es).length<(Va1 es').length:=by
      rcases Nat.lt_or_ge (j-(Va1 es).length) (Va1 es').length with h|h
      ·exact h
      ·simp[List.getElem?_eq_none h]at hj
     have hq:(Va1 es).length=l.length*sz:=by rw[hl1,hll]
     have hjj2:off+j-(off+l.length*sz)<(Va1 es').length:=by omega
     simp only[Z7];rw[Zz,List.getElem?_append_right (by rw[htl];omega),htl,Zu hjj2];rw[show off+j-(off+l.length*sz)=j-(Va1 es).length by omega];simpa using hj
   ·have:=Ya hj;rcases Z5.1 this with h|h
    ·exact hcellsOld v h
    ·exact h1' v h
 ·simp only[List.size_toArray,Z0,List.length_take,List.length_drop,Array.length_toList,hl2,hll'];omega
 ·simp only[Gh.next,Gh.setU,if_true,Z0]
theorem Vn2{α:Type}(A z x:List α)(p:Nat)(hp:p<=A.length)(hz:z.length=x.length):
  (A.take p++z++A.drop (p+z.length)).take p++x++(A.take p++z++A.drop (p+z.length)).drop (p+x.length)=A.take p++x++A.drop (p+x.length):=by
 have htl:(A.take p).length=p:=by simp;omega
 rw[Zz (A.take p) z,List.take_left' htl];congr 1
 have:p+x.length=(A.take p).length+z.length:=by rw[htl,hz]
 rw[this,List.drop_append,List.drop_eq_nil_of_le kv,List.nil_append,Nat.add_sub_cancel_left,List.drop_left' rfl,htl]
def PushTo(P:Program)(G:Gh)(w:World)(S:St)(a:Act)(k:Key)(g sz:Nat)(l:List AV)(x:AV)(u v0 vx:Value)(ty t:TypeId):Prop:=
 ∃b off cap w1 arr1 arr2 e1 G',(Builtin.append_ #[t,t] ty #[u,v0]).run P w=.ok (.slice (some ⟨b,off,none⟩) (l.length+1) cap) w1/\w1.heap[b]? =some (.cells arr1 e1 (0,0))/\
  (∀W:World,W.heap[b]? =some (.cells arr1 e1 (0,0))->(storeCells ⟨b,off+l.length*sz,none⟩ vx.cells.toList).run P W=.ok () (W.setRow b arr2))/\Step G w G' (w1.setRow b arr2)/\Rel G' (w1.setRow b arr2) (S.next k) a/\
  RepS G' (w1.setRow b arr2) (.own k (g+1) sz (l++[x])) (.slice (some ⟨b,off,none⟩) (l.length+1) cap)/\(∀i,G'.ow (i,0)=G.ow (i,0))/\∀ κ c,κ≠k->G.ow κ=some c->c≠b/\w1.heap[c]? =w.heap[c]?
theorem push_own{t ty e:TypeId}{sz bt:Nat}{z:Value}(ht:Vbb P t=some e)(h2:Vdr P t=true)(hi:Vak P e=some (sz,bt,some z))(hz:z.cells.size=sz)(hbt:0<bt)
  {G:Gh} {w:World} {S:St} {a:Act} {k:Key} {g:Nat} {l:List AV} {x0 x:AV} {u v0 vx:Value} {es0:List Value} (hr:Rel G w S a) (hown:RepS G w (.own k g sz l) u) (hke:e+1=k.2) (hgen:S.gen k=g) (h0:Src P w G.U sz v0 [x0] es0) (hu0:Uni sz [x0])
  (hx:Rep G.U w x vx) (hux:Uni sz [x]) (hb:(l.length+1)*bt<=140737488355328):
  PushTo P G w S a k g sz l x u v0 vx ty t:=by
 obtain⟨hk0,hgle,ad,cap,es,rfl,g2,g3,g4,gn,gsp,g5,g6⟩:=hown
 have hgg:G.gen k=g:=by rw[hr.gn k];exact hgen
 have g6:=g6 hgg
 have hes0:=hu0.sizes h0.rep
 have hrx:RepL G.U w [x] [vx]:=by simp only[RepL];exact⟨vx,[],rfl,hx,rfl⟩
 have hvx:=hux.sizes hrx
 have hcx:=hrx.cells hux
 have hc0:=h0.rep.cells hu0
 have hl1:=Vac es g3
 have hl0:=Vac es0 hes0
 have hlx:=Vac [vx] hvx
 have hll:=g2.length
 have hll0:=h0.rep.length
 have e0:es0.length=1:=by simpa using hll0
 have hvv:Va1 [vx]=vx.cells.toList:=by simp[Va1]
 rw[e0]at hl0;simp only[List.length_singleton]at hlx
 have hl0x:(Va1 es0).length=(Va1 [vx]).length:=by omega
 have grow:cap<l.length+1->(ad=none->es=[])->PushTo P G w S a k g sz l x (.slice ad l.length cap) v0 vx ty t:=by
  intro hlt hn;obtain⟨nc,rest,q1,q2,q3⟩:=Vc9 (ty:=ty) ht h2 hi hz hbt (w:=w) (a:=ad) (n:=l.length) (cap:=cap) (m:=1) (x:=v0) (olds:=Va1 es) (news:=Va1 es0) (h0.len w rfl)
   (λw' hw=>Vcz g5 g3 hll hn w' hw) (λw' hw=>h0.cells w' hw) hlt hb
  obtain⟨G',s1,s2,s3,s4⟩:=own_grown (rest:=rest) (nc:=nc) (cap:=cap) hr hk0 hke hgg g2 g3 g5 hrx hux (by simpa using q1) (by simpa using q2)
  have htl:(Va1 es).length=l.length*sz:=by rw[hl1,hll]
  have hst:∀ W:World,W.heap[w.heap.size]? =some (.cells (Va1 es++Va1 es0++rest).toArray e (0,0))->(storeCells ⟨w.heap.size,0+l.length*sz,none⟩ vx.cells.toList).run P W=.ok () (W.setRow w.heap.size (Va1 es++Va1 [vx]++rest).toArray):=by
   intro W hW;rw[Z6]
   have hst:=run_storeCells_at (P:=P) w.heap.size (l.length*sz) e (Va1 [vx]) 0 (Va1 es++Va1 es0++rest).toArray W hW (by simp only[List.size_toArray,Z0,hl1,hll];omega) hcx;simp only[Nat.add_zero]at hst;rw[hvv]at hst;rw[hst];congr 3;rw[hvv]at hl0x;rw[Zz (Va1 es),List.take_left' htl,hvv];congr 1;rw[<-htl,List.drop_append,List.drop_eq_nil_of_le kv,List.nil_append,Nat.add_sub_cancel_left,List.drop_left' hl0x]
  have hw:(w.drew.alloc (.cells (Va1 es++Va1 es0++rest).toArray e)).setRow w.heap.size (Va1 es++Va1 [vx]++rest).toArray=w.drew.alloc (.cells (Va1 es++Va1 [vx]++rest).toArray e):=Vot w.drew _ _ e;refine⟨w.heap.size,0,nc,_,_,(Va1 es++Va1 [vx]++rest).toArray,e,G',q3,Vat w.drew _,hst,?_,?_,?_,s4,λκ c _ hκ=>?_⟩
  ·rw[hw];exact s1
  ·rw[hw];exact s2
  ·rw[hw];exact s3
  ·have:=hr.wf.lt κ c hκ;exact⟨by omega,Vbe w.drew _ this⟩
 rcases g6 with⟨rfl,gz⟩|⟨b,off,arr,e',rfl,o1,o2,o3,o4,o5⟩
 ·have hl00:l.length=0:=by omega
  have hes00:es=[]:=List.length_eq_zero_iff.1 kv;exact grow kv (λ_=>hes00)
 ·by_cases hle:l.length+1<=cap
  ·have hmul:(l.length+1)*sz<=cap*sz:=Z9 _ hle;rw[Nat.add_mul]at hmul
   have hst:=run_storeCells_at (P:=P) b (off+l.length*sz) e' (Va1 es0) 0 arr w o2 kv hc0;simp only[Nat.add_zero]at hst
   have hst2:∀ W:World,W.heap[b]? =some (.cells (arr.toList.take (off+l.length*sz)++Va1 es0++arr.toList.drop (off+l.length*sz+(Va1 es0).length)).toArray e' (0,0))->
     (storeCells ⟨b,off+l.length*sz,none⟩ vx.cells.toList).run P W=.ok () (W.setRow b (arr.toList.take (off+l.length*sz)++Va1 [vx]++arr.toList.drop (off+l.length*sz+(Va1 [vx]).length)).toArray):=by
    intro W hW
    have hst2:=run_storeCells_at (P:=P) b (off+l.length*sz) e' (Va1 [vx]) 0 (arr.toList.take (off+l.length*sz)++Va1 es0++arr.toList.drop (off+l.length*sz+(Va1 es0).length)).toArray
     W hW (by simp only[List.size_toArray,Z0,List.length_take,List.length_drop,Array.length_toList];omega) hcx
    simp only[Nat.add_zero]at hst2;rw[hvv]at hst2 hl0x ⊢;rw[hst2];congr 3
    have:=Vn2 arr.toList (Va1 es0) vx.cells.toList (off+l.length*sz) (by rw[show arr.toList.length=arr.size from Array.length_toList];omega) hl0x;simpa using this
   obtain⟨G',s1,s2,s3,s4⟩:=own_room hr hk0 hgg g2 g3 g5 o1 o2 o3 o4 o5 hrx hux (by simpa using hle);refine⟨b,off,cap,_,_,_,e',G',Vbi (ty:=ty) ht h2 hi (h0.len w rfl) (h0.cells w rfl) (by simpa using hle) hst,setRow_heap w b arr _ e' _ o2,hst2,?_,?_,?_,s4,λκ c hne hκ=>?_⟩
   ·rw[Vem];exact s1
   ·rw[Vem];exact s2
   ·rw[Vem];exact s3
   ·have hcb:c≠b:=λhe=>hne (hr.wf.inj κ k b (he ▸ hκ) o1)
    exact⟨hcb,setRow_other w b c _ hcb⟩
  ·exact grow kv ku
end Go.Eng
namespace Go.Eng
variable {P:Program}
def WA(P:Program)(ops:Array Oper)(Q:St->Prop)(fuel:Nat)(listed:Array Bool)(S:St):Prop:=
 ∀(Q':Exit->Act->World->Prop)(G:Gh)(w:World)(a:Act),Rel G w S a->
  (∀S' G' a' w',Q S'->Step G w G' w'->Rel G' w' S' a'->(∀i,Fx i->G'.ow (i,0)=G.ow (i,0))->Q' .normal a' w')->wpAny P .any ops Q' fuel listed a w
def upTo(sz n:Nat):Array Bool:=(Array.range sz).map (λi=>decide (i<n))
def Vpq(ops:Array Oper)(n:Nat):Nat->Array Bool->Bool
 |0,listed=>(Zj n).all (λi=>listed.getD i false)
 |f+1,listed=> !(Region.ready .any ops listed).isEmpty&&(Region.ready .any ops listed).all (λi=>decide (i<n)&&Vpq ops n f (listed.setIfInBounds i true))
theorem upTo_eq{listed:Array Bool}{sz n:Nat}(hsz:listed.size=sz)(h1:∀ j,j<n->listed.getD j false=true)(h2:∀ j,n<=j->listed.getD j false=false):listed=upTo sz n:=by
 apply Array.ext
 ·simp[upTo,hsz]
 ·intro i hi hi';simp only[upTo,Array.getElem_map,Array.getElem_range]
  by_cases h:i<n
  ·have:=h1 i h;simp only[Zb,Zm hi,Z8]at this;rw[this];simp[h]
  ·have:=h2 i kv;simp only[Zb,Zm hi,Z8]at this;rw[this];simp[h]
theorem W_head{id:Nat}{ops:Array Oper}{Q:Exit->St->Prop}{S Sc:St}(hm:P.follows .mixedOrders=true)(n:Nat)(v:Nat->SV)(d:Nat->Nat)(hB:Vpq ops n n (Z1 ops.size false)=true)
  (hd:∀ i,i<n->∃ o,ops[i]? =some o/\o.dst=some (d i)/\o.guard=none) (hinj:∀ i j,i<n->j<n->d i=d j->i=j) (hlt:∀ i,i<n->d i<S.fr.length)
  (hop:∀ i,i<n->∀ o,ops[i]? =some o->∀ S':St,S'.bx=S.bx->S'.gn=S.gn->S'.fr.length=S.fr.length->(∀e∈o.after,Region.binds .any e=true->e.on<n->S'.fr[d e.on]? =some (v e.on))->(∀t:Nat,(∀j,j<n->t≠d j)->S'.fr[t]? =S.fr[t]?)->
   ∃p:Prop,p/\Vb6 P o S'=some ⟨p,v i,S'⟩)
  (hS1:Sc.bx=S.bx) (hS2:Sc.gn=S.gn) (hS3:∀ j,j<n->Sc.fr[d j]? =some (v j)) (hS4:∀ t:Nat,(∀j,j<n->t≠d j)->Sc.fr[t]? =S.fr[t]?)
  (h:WA P ops (Q .normal) (ops.size-n) (upTo ops.size n) Sc):W P (.region id ops true) Q S:=by
 intro G0 w0 a0 hr0;obtain⟨hstep0,hr0'⟩:=hr0.draw;apply wp_region_any hm
 have main:∀(f:Nat)(listed:Array Bool)(G:Gh)(w:World)(a:Act)(S':St),Vpq ops n f listed=true->listed.size=ops.size->(∀j,n<=j->listed.getD j false=false)->S'.bx=S.bx->S'.gn=S.gn->S'.fr.length=S.fr.length->
   (∀j,j<n->listed.getD j false=true->S'.fr[d j]? =some (v j))->(∀t:Nat,(∀j,j<n->t≠d j)->S'.fr[t]? =S.fr[t]?)->Rel G w S' a->Step G0 w0 G w->(∀i,Fx i->G.ow (i,0)=G0.ow (i,0))->wpAny P .any ops (lift Q G0 w0) (f+(ops.size-n)) listed a w:=by
  intro f
  induction f with
  | zero=>
   intro listed G w a S' hb hsz hun h1 h2 h3 h4 h5 hr hst how;simp only[Vpq]at hb
   have hall':∀ j,j<n->listed.getD j false=true:=λj hj=>Ze.1 hb j (Zr.2 hj)
   have hfr:S'.fr=Sc.fr:=by
    apply List.ext_getElem?;intro t
    by_cases ht:∃ j,j<n/\t=d j
    ·obtain⟨j,hj,rfl⟩:=ht;rw[h4 j hj (hall' j hj),hS3 j hj]
    ·have ht':∀ j,j<n->t≠d j:=λj hj e=>ht ⟨j,hj,e⟩
     rw[h5 t ht',hS4 t ht']
   have hSS:S'=Sc:=by
    obtain⟨f1,b1,g1⟩:=S';obtain⟨f2,b2,g2⟩:=Sc;simp only at hfr h1 h2 hS1 hS2;rw[hfr,h1,h2,hS1,hS2]
   subst hSS;rw[upTo_eq hsz hall' hun,Z6];exact h (lift Q G0 w0) G w a hr (λS2 G2 a2 w2 q1 q2 q3 q4=>⟨S2,G2,q1,hst.trans q2,q3,λi hi=>(q4 i hi).trans (how i hi)⟩)
  | succ f ih=>
   intro listed G w a S' hb hsz hun0 h1 h2 h3 h4 h5 hr hst how;simp only[Vpq,Zc,Zo,List.isEmpty_eq_false_iff]at hb;obtain⟨hne,hall⟩:=hb;rw[show f+1+(ops.size-n)=(f+(ops.size-n))+1 by omega];refine⟨λh0=>absurd h0 hne,λi hi=>?_⟩
   have hi2:=Ze.1 hall i hi;simp only[Zc,decide_eq_true_eq]at hi2;obtain⟨hin,hbi⟩:=hi2;obtain⟨hun,o,ho,hdep⟩:=mem_ready.1 hi;obtain⟨o',ho',hdst,hg⟩:=hd i hin
   have:o'=o:=Option.some.inj (ho'.symm.trans ho);subst this;obtain⟨p,hp,hast⟩:=hop i hin o' ho S' h1 h2 h3 (λe he hbe hen=>h4 e.on hen (hdep e he hbe)) h5;obtain⟨nx,u,w',G',x1,x2,x3,x4,x5,x6⟩:=Vau hast hp G w a hr;unfold wpOp;simp only[ho];rw[if_pos (Vao hg a)];refine .inl ?_
   have hlisted:i<listed.size:=by rw[hsz];exact(Z2.1 ho).1
   have next:∀ u,RepS G' w' (v i) u->wpAny P .any ops (lift Q G0 w0) (f+(ops.size-n)) (listed.setIfInBounds i true) (a.put o'.dst u) w':=by
    intro u hu;refine ih _ G' w' _ (S'.put (some (d i)) (v i)) hbi (by simp[hsz]) (λj hj=>?_) h1 h2 (by simp[St.put,h3]) (λj hj hl=>?_) (λt ht=>?_) (by rw[hdst];exact x4.put (some (d i)) hu) (hst.trans x3) (λi hi=>(x6 i hi).trans (how i hi))
    ·have hq:=hun0 j hj;simp only[Zb]at hq ⊢;rw[Zf kv];exact hq
    ·simp only[St.put,Zq]
     by_cases hji:d i=d j
     ·have:=hinj i j hin hj hji;subst this;rw[if_pos rfl,if_pos (by rw[h3];exact hlt i hin)]
     ·rw[if_neg hji];refine h4 j hj ?_
      have hij:i≠j:=λe=>hji (by rw[e])
      rw[<-hl];simp only[Zb];rw[Zf hij]
    ·simp only[St.put,Zq];rw[if_neg (λe=>ht i hin e.symm)];exact h5 t ht
   unfold Oper.wp;rw[x1];rcases x2 with rfl|⟨rfl,rfl⟩
   ·rw[Oper.upon_value];exact next _ x5
   ·rw[Oper.upon_skip];exact next _ x5
 by_cases hle:n<=ops.size
 ·have:=main n (Z1 ops.size false) G0 _ a0 S hB ku (λj _=>getD_replicate_false _ _) rfl rfl rfl (λj _ hl=>by rw[getD_replicate_false]at hl;cases hl) (λ_ _=>rfl) hr0' hstep0 (λ_ _=>rfl);rwa[show n+(ops.size-n)=ops.size by omega]at this
 ·obtain⟨o,ho,_⟩:=hd ops.size kv;simp at ho
section
variable {ops:Array Oper} {Q:Exit->Act->World->Prop}
theorem Vni{i:Nat}{o:Oper}{K:Act->World->Prop}{a:Act}{w w':World}{v:Value}(ho:ops[i]? =some o)(hg:o.guard=none)(hx:(execOp a.eval o).run P w=.ok (.value v) w')(h:K (a.put o.dst v) w'):wpOp P ops Q i K a w:=by
 unfold wpOp;simp only[ho];rw[if_pos (Vao hg a)];refine .inl ?_;unfold Oper.wp;rw[hx,Oper.upon_value];exact h
theorem Via{i:Nat}{o:Oper}{K:Act->World->Prop}{a:Act}{w w':World}(ho:ops[i]? =some o)(hg:o.guard=none)(hd:o.dst=none)(hx:(execOp a.eval o).run P w=.ok .skip w')(h:K a w'):wpOp P ops Q i K a w:=by
 unfold wpOp;simp only[ho];rw[if_pos (Vao hg a)];refine .inl ?_;unfold Oper.wp;rw[hx,Oper.upon_skip,hd];exact h
theorem Vik{L:Array Bool}{i f:Nat}{a:Act}{w:World}(hr:Region.ready .any ops L=[i])(h:wpOp P ops Q i (wpAny P .any ops Q f (L.setIfInBounds i true)) a w):wpAny P .any ops Q (f+1) L a w:=
 ⟨λh0=>(by rw[hr]at h0;cases h0),λj hj=>(by
  rw[hr]at hj;obtain rfl:j=i:=by simpa using hj
  exact h)⟩
theorem any_two{L:Array Bool}{i j f:Nat}{a:Act}{w:World}(hr:Region.ready .any ops L=[i,j])(h1:wpOp P ops Q i (wpAny P .any ops Q f (L.setIfInBounds i true)) a w)(h2:wpOp P ops Q j (wpAny P .any ops Q f (L.setIfInBounds j true)) a w):wpAny P .any ops Q (f+1) L a w:=
 ⟨λh0=>(by rw[hr]at h0;cases h0),λk hk=>by
  rw[hr]at hk;simp only[Zp,Zl,or_false]at hk;rcases hk with rfl|rfl
  ·exact h1
  ·exact h2⟩
end
theorem setRow_comm(w:World){b c:Nat}(h:b≠c)(x y:Array Value):(w.setRow b x).setRow c y=(w.setRow c y).setRow b x:=by
 have he:((w.setRow b x).setRow c y).heap=((w.setRow c y).setRow b x).heap:=by
  apply Array.ext_getElem?;intro i;simp only[World.setRow,Zv]
  by_cases h1:b=i <;>by_cases h2:c=i
  ·exact(h (h1.trans h2.symm)).elim
  ·simp[h1,h2]
  ·simp[h1,h2]
  ·simp[h1,h2]
 exact congrArg (λh=>({w with heap:=h}:World)) he
def pushB(ops:Array Oper)(n:Nat)(L:Array Bool):Bool:=
 let s:=λ(L:Array Bool)(i:Nat)=>L.setIfInBounds i true
 decide (Region.ready .any ops L=[n])&&decide (Region.ready .any ops (s L n)=[n+1,n+3])&&decide (Region.ready .any ops (s (s L n) (n+1))=[n+2,n+3])&&decide (Region.ready .any ops (s (s (s L n) (n+1)) (n+2))=[n+3])&&
 decide (Region.ready .any ops (s (s L n) (n+3))=[n+1])&&decide (Region.ready .any ops (s (s (s L n) (n+3)) (n+1))=[n+2])&&decide (Region.ready .any ops (s (s (s L n) (n+1)) (n+3))=[n+2])&&
 decide (Region.ready .any ops (s (s (s (s L n) (n+1)) (n+2)) (n+3))=[])&&decide (Region.ready .any ops (s (s (s (s L n) (n+3)) (n+1)) (n+2))=[])&&decide (Region.ready .any ops (s (s (s (s L n) (n+1)) (n+3)) (n+2))=[])
theorem WA_push{ops:Array Oper}{o4 o5 o6 o7:Oper}{Q:St->Prop}{S:St}{n:Nat}{L:Array Bool}{t e T T7 ty:TypeId}{sz bt bt' bt7:Nat}{z:Value}{z' z7:Option Value}{k:Key}{g d4 d5 p1 bid:Nat}{l:List AV}{x0 x:AV}{s0:SV}{A B C X:Operand}
  (hB:pushB ops n L=true) (hi4:ops[n]? =some o4) (hi5:ops[n+1]? =some o5) (hi6:ops[n+2]? =some o6) (hi7:ops[n+3]? =some o7)
  (ho4:o4.op=.call {callee:=.builtin .append,args:=#[A,B],argTypes:=#[t,t]}) (hd4:o4.dst=some d4) (hg4:o4.guard=none) (ho5:o5.op=.indexAddr t (.tmp d4) C) (hd5:o5.dst=some d5) (hg5:o5.guard=none) (ho6:o6.op=.store T (.tmp d5) X) (hd6:o6.dst=none) (hg6:o6.guard=none)
  (ho7:o7.op=.store T7 (.tmp p1) (.tmp d4)) (hd7:o7.dst=none) (hg7:o7.guard=none)
  (hA:S.ev A=.own k g sz l) (hBv:S.ev B=.av (.sl [x0])) (hC:S.ev C=.av (.val (.int .i64 l.length))) (hX:(S.ev X).toAV=some x) (hP:S.ev (.tmp p1)=.ptr bid 0) (hbx:S.bx.lookup bid=some (.cells ty [s0]))
  (hC4:C≠ .tmp d4) (hX4:X≠ .tmp d4) (hX5:X≠ .tmp d5) (hp4:p1≠d4) (hp5:p1≠d5) (hne:d4≠d5) (hl4:d4<S.fr.length) (hl5:d5<S.fr.length)
  (ht:Vbb P t=some e) (h2:Vdr P t=true) (hi:Vak P e=some (sz,bt,some z)) (hT:Vak P T=some (sz,bt',z')) (hT7:Vak P T7=some (1,bt7,z7)) (hz:z.cells.size=sz) (hbt:0<bt) (hke:e+1=k.2) (hgen:S.gen k=g) (hu0:Uni sz [x0]) (hux:Uni sz [x]) (hb:(l.length+1)*bt<=140737488355328)
  (h:Q ((((S.next k).put (some d4) (.own k (g+1) sz (l++[x]))).put (some d5) .junk).setBox bid (.cells ty [.own k (g+1) sz (l++[x])]))):WA P ops Q 4 L S:=by
 intro Q' G w a hr hq;simp only[pushB,Zc,decide_eq_true_eq]at hB;obtain⟨⟨⟨⟨⟨⟨⟨⟨⟨b1,b2⟩,b3⟩,b4⟩,b5⟩,b6⟩,b7⟩,b8⟩,b9⟩,b10⟩:=hB
 have ht':P.underlying t=some (.slice e):=by
  unfold Vbb at ht;split at ht
  ·rename_i hh;simp at ht;subst ht;exact hh
  ·simp at ht
 have hrA:=hr.ev A;rw[hA]at hrA
 have hrB:=hr.ev B;rw[hBv]at hrB
 have hrC:=hr.ev C;rw[hC]at hrC;simp only[RepS,Rep]at hrC
 have hrP:=hr.ev (.tmp p1);rw[hP]at hrP;obtain⟨bx,hbx1,hbx2⟩:=hrP;obtain⟨bx',arrb,q1,q2,q3,q4,q5⟩:=hr.bx _ (Vad hbx);simp only at q1;rw[hbx1]at q1;simp only[Zd]at q1;subst q1
 have hrX:=(hr.ev X).toAV hX;obtain⟨es0,hs0⟩:=src_sl (P:=P) (x:=a.eval B) hrB hu0;obtain⟨b,off,cap,w1,arr1,arr2,e1,G',r1,r0,r2,s1,s2,s3,s4,s5⟩:=push_own (ty:=o4.type) ht h2 hi hz hbt hr hrA hke hgen hs0 hu0 hrX hux hb;obtain⟨c1,c2⟩:=s5 (bid,0) bx (by intro e;rw[<-e]at hke;simp at hke) hbx1
 have hheapx:w1.heap[bx]? =some (.cells arrb ty (0,0)):=by rw[c2];exact q2
 have hsz:a.tmps.size=S.fr.length:=hr.size.symm
 have evne:∀(a':Act)(y:Operand)(v:Value)(d:Nat),y≠ .tmp d->(a'.put (some d) v).eval y=a'.eval y:=by
  intro a' y v d hy;cases y with
  |tmp t'=>
   have:t'≠d:=λe=>hy (by rw[e])
   simp only[Act.eval,Act.put,Zb];rw[Zf (Ne.symm this)]
  |_=>rfl
 have eveq:∀(a':Act)(v:Value)(d:Nat),d<a'.tmps.size->(a'.put (some d) v).eval (.tmp d)=v:=by
  intro a' v d hd;simp only[Act.eval,Act.put,Zb];rw[Zk hd];rfl
 obtain⟨u1,hu1⟩:∃ u1,u1=Value.slice (some ⟨b,off,none⟩) (l.length+1) cap:=⟨_,rfl⟩
 obtain⟨pt,hpt⟩:∃ pt,pt=Value.pointer (some ⟨b,off+l.length*sz,none⟩):=⟨_,rfl⟩
 have x4:(execOp a.eval o4).run P w=.ok (.value u1) w1:=by
  obtain⟨c,hc⟩:=Vax (P:=P) (a:=a) ho4 w;rw[hc,hu1];simp[builtin,r1]
 have hs4:d4<a.tmps.size:=by omega
 have hs5:d5<(a.put (some d4) u1).tmps.size:=by simp only[Act.put,Array.size_setIfInBounds];omega
 have x5:∀ W,(execOp (a.put (some d4) u1).eval o5).run P W=.ok (.value pt) W:=by
  intro W
  have hlt':((l.length:Nat):Int)<((l.length:Nat):Int)+1:=by omega
  have ev4:(a.put (some d4) u1).eval (.tmp d4)=.slice (some ⟨b,off,none⟩) (l.length+1) cap:=by rw[eveq _ _ _ hs4,hu1]
  rw[hpt];simp[execOp,ho5,ev4,evne _ C _ d4 hC4,hrC.1,Instr.indexAt,asIntOf,Va0 ht',Vab hi,Vba,hlt']
 have hcs:(a.eval X).cells.size=sz:=by
  have:=hux.sizes (show RepL G.U w [x] [a.eval X] by simp only[RepL];exact⟨_,[],rfl,hrX,rfl⟩);exact this _ ku
 have x6:∀ W:World,W.heap[b]? =some (.cells arr1 e1 (0,0))->(execOp ((a.put (some d4) u1).put (some d5) pt).eval o6).run P W=.ok .skip (W.setRow b arr2):=by
  intro W hW
  have ev5:((a.put (some d4) u1).put (some d5) pt).eval (.tmp d5)=.pointer (some ⟨b,off+l.length*sz,none⟩):=by rw[eveq _ _ _ hs5,hpt]
  simp[execOp,ho6,ev5,evne _ X _ _ hX5,evne _ X _ _ hX4,Instr.storeAt,Instr.sureAddr,storeVar,Vab hT,hcs,r2 W hW]
 have hone:u1.oneCell'=true:=by rw[hu1];rfl
 have hcell:u1.cells=#[u1]:=by rw[hu1];rfl
 have hal:arrb.size=1:=by simpa using q4.length
 have x7':∀ W:World,W.heap[bx]? =some (.cells arrb ty (0,0))->(storeCells ⟨bx,0,none⟩ [u1]).run P W=.ok () (W.setRow bx (arrb.toList.take 0++[u1]++arrb.toList.drop (0+1)).toArray):=by
  intro W hW
  have:=run_storeCells_at (P:=P) bx 0 ty [u1] 0 arrb W hW (by simp;omega) (by simpa using hone);simpa using this
 have x7:∀(a':Act)(W:World),a'.eval (.tmp p1)=.pointer (some ⟨bx,0,none⟩)->a'.eval (.tmp d4)=u1->W.heap[bx]? =some (.cells arrb ty (0,0))->(execOp a'.eval o7).run P W=.ok .skip (W.setRow bx (arrb.toList.take 0++[u1]++arrb.toList.drop (0+1)).toArray):=by
  intro a' W e1 e2 hW
  have hc1:u1.cells.size=1:=by rw[hcell];rfl
  have hc2:u1.cells.toList=[u1]:=by rw[hcell]
  have:=x7' W hW;simp[execOp,ho7,e1,e2,Instr.storeAt,Instr.sureAddr,storeVar,Vab hT7,hc1,hc2,this]at this ⊢
 have evp1:(a.put (some d4) u1).eval (.tmp p1)=.pointer (some ⟨bx,0,none⟩):=by
  rw[evne _ (.tmp p1) _ _ (by simpa using hp4)];exact hbx2
 have evp2:((a.put (some d4) u1).put (some d5) pt).eval (.tmp p1)=.pointer (some ⟨bx,0,none⟩):=by
  rw[evne _ (.tmp p1) _ _ (by simpa using hp5)];exact evp1
 have evd1:(a.put (some d4) u1).eval (.tmp d4)=u1:=eveq _ _ _ hs4
 have evd2:((a.put (some d4) u1).put (some d5) pt).eval (.tmp d4)=u1:=by
  rw[evne _ (.tmp d4) _ _ (by simpa using hne)];exact evd1
 -- the end
 have s3':RepS G' (w1.setRow b arr2) (.own k (g+1) sz (l++[x])) u1:=by rw[hu1];exact s3
 have hfin0:Rel G' (w1.setRow b arr2) (((S.next k).put (some d4) (.own k (g+1) sz (l++[x]))).put (some d5) .junk) ((a.put (some d4) u1).put (some d5) pt):=(s2.put (some d4) s3').put (some d5) trivial
 have hx2:(w1.setRow b arr2).heap[bx]? =some (.cells arrb ty (0,0)):=by rw[setRow_other _ _ _ _ c1];exact hheapx
 obtain⟨w3,y1,y2,y3⟩:=hfin0.storeBox (b:=bid) (ty:=ty) (l:=[s0]) (by simpa[St.put,St.next]using hbx) (by rw[s4];exact hbx1) 0 (xs:=[.own k (g+1) sz (l++[x])]) (vs:=[u1]) ⟨u1,[],rfl,s3',rfl⟩ (by simpa using hone) ku
 have hw3:w3=(w1.setRow b arr2).setRow bx (arrb.toList.take 0++[u1]++arrb.toList.drop (0+1)).toArray:=by
  have:=(y1 P).symm.trans (x7' _ hx2);simpa using this
 have fin:Q' .normal ((a.put (some d4) u1).put (some d5) pt) w3:=hq _ G' _ w3 (by simpa using h) (s1.trans y2) y3 (λi _=>s4 i)
 have hcomm:((w1.setRow bx (arrb.toList.take 0++[u1]++arrb.toList.drop (0+1)).toArray).setRow b arr2)=w3:=by rw[hw3];exact setRow_comm w1 c1 _ _
 have hb1:(w1.setRow bx (arrb.toList.take 0++[u1]++arrb.toList.drop (0+1)).toArray).heap[b]? =some (.cells arr1 e1 (0,0)):=by rw[setRow_other _ _ _ _ (Ne.symm c1)];exact r0
 refine Vik b1 (Vni hi4 hg4 x4 ?_);rw[hd4];refine any_two b2 (Vni hi5 hg5 (x5 w1) ?_) (Via hi7 hg7 hd7 (x7 _ w1 evp1 evd1 hheapx) ?_)
 ·rw[hd5];refine any_two b3 (Via hi6 hg6 hd6 (x6 w1 r0) ?_) (Via hi7 hg7 hd7 (x7 _ w1 evp2 evd2 hheapx) ?_)
  ·refine Vik b4 (Via hi7 hg7 hd7 (x7 _ _ evp2 evd2 hx2) ?_);rw[<-hw3];exact⟨b8,fin⟩
  ·refine Vik b7 (Via hi6 hg6 hd6 (x6 _ hb1) ?_);rw[hcomm];exact⟨b10,fin⟩
 ·refine Vik b5 (Vni hi5 hg5 (x5 _) ?_);rw[hd5];refine Vik b6 (Via hi6 hg6 hd6 (x6 _ hb1) ?_);rw[hcomm];exact⟨b9,fin⟩
end Go.Eng
namespace Go.Eng
variable {P:Program}
theorem BEGb {α : Type} (enc : α -> SV) (M : α) {f : FuncId} {fn : Func} {args : List SV} {bx bx' : List (Nat × ABox)} {gn gn' : List (Key × Nat)} (hf : P.funcs[f]? = some fn) (hok : (fn.body.isSome && !(fn.name == "runtime.NumGoroutine") && decide (args.length <= fn.ntmps)) = true)
  (hids:∀ p∈bx,1000<=p.1) (hgk:∀ p∈gn,1000<=p.1.1/\0<p.1.2) (hargs:∀ s∈args,OkSV (bx.map (·.1)) gn s) (hbx:∀ p∈bx,∀s∈p.2.svs,OkSV (bx.map (·.1)) gn s)
  (hres:OkSV (bx.map (·.1)) gn' (enc M)) (hbx':∀ p∈bx',∀s∈p.2.svs,OkSV (bx.map (·.1)) gn' s) (hsame:bx'.map (·.1)=bx.map (·.1)) (hgn':gn'.map (·.1)=gn.map (·.1))
  (h:Nx P (KE P fn enc bx' gn') M (start (Vbc fn) ⟨args++List.replicate (fn.ntmps-args.length) .junk,bx,gn⟩)) (hv:∀ p∈bx',p.1<2000\/p.1∈Vb8 bx':=by simp):Va2 P f args bx gn (enc M) bx' gn':=by
 simp only[Zc,decide_eq_true_eq,Zo]at hok;obtain⟨⟨h1,h2⟩,h3⟩:=hok;obtain⟨c,hb⟩:=Z4.1 h1
 have e:Vbc fn=c:=by simp[Vbc,hb]
 refine Ve3 hf hb h2 rfl h3 hids hgk hargs hbx hres hbx' hsame hgn' ?_ hv;rw[<-e];exact h.x
theorem ENb{α:Type}{fn:Func}{enc:α->SV}{M:α}{X:Cf}{bx':List (Nat×ABox)}{gn':List (Key×Nat)}(h:Vls P fn X=some (enc M))(h3:∀ p∈bx',(stOf X).bx.lookup p.1=some p.2)(h4:∀ p∈gn',(stOf X).gen p.1=p.2):Nx P (KE P fn enc bx' gn') M X:=by
 unfold Vls at h
 split at h
 ·exact⟨ends (.inl rfl) h rfl h3 h4⟩
 ·exact⟨ends (.inr rfl) h rfl h3 h4⟩
 ·simp at h
def atC(X:Cf):Code:=match X with
 |some (_,_,.at c _ _)=>c
 |_=>.skip
def isAt(X:Cf):Bool:=match X with
 |some (_,_,.at _ _ _)=>true
 |_=>false
def contX(P:Program)(X:Cf)(S2:St)(ors:List Oq):Cf:=match X with
 |some (_,_,.at _ ks _)=>goK P ks (some ([],ors,.fin .normal S2))
 |_=>none
theorem W_weakQ{c:Code}{S S2:St}(h:W P c (λe S1=>e=.normal/\Weak S1 S2) S):W P c (λe S1=>e=.normal/\S1=S2) S:=
 λG w a hr=>wp_mono (h G w a hr) (λe a' w' ⟨S1,G',⟨he,hw⟩,h2,h3,h4⟩=>⟨S2,G',⟨he,rfl⟩,h2,hw G' w' a' h3,h4⟩)
theorem Val{c c':Code}{Q:Exit->St->Prop}{S:St}(h:c=c')(hw:W P c' Q S):W P c Q S:=by rw[h];exact hw
theorem NXW{α:Type}{K:α->Exit->St->Prop}{M:α}{X:Cf}(S2:St)(oc:OC)(hX:isAt X=true)(hW:W P (atC X) (λe S1=>e=.normal/\Weak S1 S2) (stOf X))(h:csOf (contX P X S2 oc.o)=some oc.c)(hn:Nx P K M (contX P X S2 oc.o)):Nx P K M X:=by
 unfold isAt at hX
 split at hX
 ·rename_i c0 o0 c ks S;obtain⟨hn⟩:=hn;simp only[contX]at h hn;cases hk:goK P ks (some ([],oc.o,.fin .normal S2))with
  |none=>rw[hk]at h;simp[csOf]at h
  |some r=>
   obtain⟨c2,o2,out2⟩:=r;rw[hk]at h hn;unfold csOf at h
   split at h
   ·rename_i e;simp only[Zd,Zh]at e h;obtain⟨rfl,rfl,rfl⟩:=e;subst h;obtain⟨q1,q2⟩:=Vaq (K M) ks _ _ _ _ _ _ hk (oc.h trivial) hn;refine⟨?_⟩;exact Vfv (W_weakQ hW) (λe S1 ⟨he,hs⟩=>by subst he hs;exact q2)
   ·simp at h
 ·simp at hX
theorem st_load{o:Oper}{S:St}{t ty:TypeId}{x:Operand}{b k:Nat}{l:List SV}{s:SV}(ho:o.op=.load t x)(hx:S.ev x=.ptr b k)(ht:tAgg P t=some false)(hb:S.bx.lookup b=some (.cells ty l))(hs:l[k]? =some s):Vb6 P o S=some ⟨True,s,S⟩:=by
 unfold Vb6;rw[ho];simp only[Vin,ht,hx,hb,hs,Yb]
theorem st_load_agg{o:Oper}{S:St}{t ty:TypeId}{sz bt:Nat}{z:Option Value}{x:Operand}{b k:Nat}{l:List SV}{r:List AV}(ho:o.op=.load t x)(hx:S.ev x=.ptr b k)(ht:tAgg P t=some true)(hi:Vak P t=some (sz,bt,z))(hb:S.bx.lookup b=some (.cells ty l))
  (h1:((l.drop k).take sz).any SV.isTok=false) (h2:SV.allAV ((l.drop k).take sz)=some r) (h3:r.length=sz):Vb6 P o S=some ⟨True,.av (.agg r),S⟩:=by
 unfold Vb6;rw[ho];simp only[Vin,ht,hi,hx,hb,h1,h2,h3,if_true]
theorem st_len{o:Oper}{S:St}{t:TypeId}{x:Operand}{k:Key}{g sz:Nat}{l:List AV}(ho:o.op=.call {callee:=.builtin .len,args:=#[x],argTypes:=#[t]})(hx:S.ev x=.own k g sz l)(ht:Vg5 P t=true):Vb6 P o S=some ⟨True,.av (.val (.int .i64 l.length)),S⟩:=by
 unfold Vb6;rw[ho];simp only[Vdv,aLen,hx,SV.toAV,ht,if_true]
theorem st_build{o:Oper}{S:St}{t e:TypeId}{sz bt:Nat}{z c:Value}{x:AV}(ho:o.op=.buildSlice t 1 #[(0,.const c)])(ht:Vbb P t=some e)(hi:Vak P e=some (sz,bt,some z))(hc:(Vfr c).toAV=some x)(hsz:sz<=16777216)(h2:sz≠2):Vb6 P o S=some ⟨Uni sz [x],.av (.sl [x]),S⟩:=by
 unfold Vb6;rw[ho]
 have h1:(S.ev (.const c)).toAV=some x:=hc;simp only[Vbz,ht,hi,List.map_cons,List.map_nil,Vcw,h1];rw[if_pos ⟨rfl,by omega⟩]
end Go.Eng
namespace Go.Eng
def reSt(X:Cf)(S':St):Cf:=match X with
 |some (c,o,.at d ks _)=>some (c,o,.at d ks S')
 |_=>none
theorem Voc{P:Program}{α:Type}{K:α->Exit->St->Prop}{M:α}{X:Cf}{S':St}(hg:Ghost (stOf X) S')(hn:Nx P K M (reSt X S')):Nx P K M X:=by
 obtain⟨hn⟩:=hn;unfold reSt at hn
 split at hn
 ·rename_i c o d ks S;exact⟨W_ghost hg hn⟩
 ·exact hn.elim
theorem ghost_tell{S:St}{t b e sz:Nat}(hs:Vcd S (some t)=.nil)(hb:b<1000)(hn:S.names b=false):Ghost S ((S.put (some t) (.vs b 0)).addBox b (.vec e sz [])):=by
 intro G w a hr
 let G':Gh:={G with ow:=λκ=>if κ=(b,0)then none else G.ow κ}
 have how:∀ κ c,G'.ow κ=some c->G.ow κ=some c:=by
  intro κ c h;simp only[G']at h
  split at h
  ·cases h
  ·exact h
 have hkp:∀ κ,κ≠(b,0)->Keep G w G' w κ:=λκ hκ=>⟨by simp only[G'];rw[if_neg hκ],λ_ _=>⟨rfl,rfl⟩⟩
 have hstep:Step G w G' w:=⟨⟨λ_=>Zg _,Imm.refl _ _,Zg _,rfl,rfl,rfl,λ_ _=>rfl,λ_=>Zg _,λκ h0 _=>hkp κ (by intro e;rw[e]at h0;simp at h0)⟩,λ_ _ _=>⟨rfl,rfl⟩,λκ c h=>.inl ⟨κ,how κ c h⟩⟩
 have hwf:Wf G' w:=⟨λκ κ' c h h'=>hr.wf.inj κ κ' c (how κ c h) (how κ' c h'),λκ c h=>hr.wf.lt κ c (how κ c h),hr.wf.zero⟩
 have hr1:Rel G' w S a:=hr.but hn hstep.toExt hwf hkp rfl
 have hbx:RepB G' w b (.vec e sz []):=Or.inl ⟨rfl,by simp[G']⟩
 have hput:Rel G' w (S.put (some t) (.vs b 0)) a:=by
  refine⟨hr1.wf,by simp only[St.put,List.length_set];exact hr1.size,λu s hu=>?_,hr1.bx,hr1.gn,hr1.defers⟩;simp only[St.put]at hu;rw[Zq]at hu
  split at hu
  ·rename_i hd;subst hd
   split at hu
   ·rename_i hlt;simp only[Zd]at hu;subst hu
    have h0:S.fr[t]? =some .nil:=by
     simp only[Vcd,Zx]at hs;rw[Zw hlt]at hs ⊢;simpa using hs
    have:=hr1.fr t _ h0;exact Or.inl ⟨rfl,this,by simp[G']⟩
   ·cases hu
  ·exact hr1.fr u s hu
 exact⟨G',hstep,hput.add hbx,λi hi=>by simp only[G'];rw[if_neg (by intro h;simp at h;omega)]⟩
def vecOf(S:St)(t b:Nat):Option (Nat×List AV):=match Vcd S (some t),S.bx.lookup b with
 | .vs b' n,some (.vec _ _ l)=>match decide (b'=b)with
  |true=>some (n,l)
  |false=>none
 |_,_=>none
theorem Vj6{S:St}{t b n:Nat}{l:List AV}(hv:vecOf S t b=some (n,l))(hn:n<=l.length):Ghost S ((S.forget b).put (some t) (.av (.sl (l.take n)))):=by
 intro G w a hr;unfold vecOf at hv
 split at hv
 ·rename_i b' n' e sz l' hs hb
  split at hv
  ·rename_i hd
   have:=of_decide_eq_true hd;subst this;simp only[Zd,Zh]at hv;obtain⟨rfl,rfl⟩:=hv
   have hbox:=hr.bx _ (Vad hb)
   have put:∀ {G':Gh},Rel G' w (S.forget b') a->(∀u,RepS G w (.vs b' n') u->Rep G'.U w (.sl (l'.take n')) u)->Rel G' w ((S.forget b').put (some t) (.av (.sl (l'.take n')))) a:=by
    intro G' h1 h2;refine⟨h1.wf,by simp only[St.put,List.length_set];exact h1.size,λu s hu=>?_,h1.bx,h1.gn,h1.defers⟩;simp only[St.put]at hu;rw[Zq]at hu
    split at hu
    ·rename_i hd;subst hd
     split at hu
     ·rename_i hlt;simp only[Zd]at hu;subst hu
      have hlt':t<S.fr.length:=by simpa[St.forget]using hlt
      have h0:S.fr[t]? =some (.vs b' n'):=by
       simp only[Vcd,Zx]at hs;rw[Zw hlt']at hs ⊢;simpa using hs
      exact h2 _ (hr.fr t _ h0)
     ·cases hu
    ·exact h1.fr u s hu
   rcases hbox with⟨hl,how⟩|⟨blk,arr,es,g0,g1,g2,g3,g4,g5,g6,⟨rest,g7⟩,g8⟩
   ·refine⟨G,Step.refl G w,put (hr.forget b') (λu hu=>?_),λ_ _=>rfl⟩;simp only at hl how;subst hl;rcases hu with⟨rfl,rfl,_⟩|⟨blk,_,h,_⟩
    ·simpa using Vf2 _ _
    ·rw[how]at h;cases h
   ·simp only at g1
    have hU:∀ c,G.U c<=(G.setU blk (Va1 (es.take n')).length).U c:=by
     intro c;simp only[Gh.setU];split
     ·rename_i h;rw[h,g3];omega
     ·omega
    have hkp:∀ κ,κ≠(b',0)->Keep G w (G.setU blk (Va1 (es.take n')).length) w κ:=λκ hκ=>⟨rfl,λc hc=>⟨rfl,by
     simp only[Gh.setU];rw[if_neg (λhe=>hκ (hr.wf.inj κ (b',0) c hc (by rw[he];exact g1)))]⟩⟩
    have hstep:Step G w (G.setU blk (Va1 (es.take n')).length) w:=⟨⟨hU,Imm.refl _ _,Zg _,rfl,rfl,rfl,λ_ _=>rfl,λ_=>Zg _,λκ h0 _=>hkp κ (by intro e;rw[e]at h0;simp at h0)⟩,
     λc _ hn=>⟨rfl,by simp only[Gh.setU];rw[if_neg (λhe=>hn (b',0) (by rw[he];exact g1))]⟩,λκ c h=>.inl ⟨κ,h⟩⟩
    have hwf:Wf (G.setU blk (Va1 (es.take n')).length) w:=⟨hr.wf.inj,hr.wf.lt,λc hc=>by simp only[Gh.setU];rw[if_neg kv];exact hr.wf.zero c hc⟩
    refine⟨_,hstep,put ((hr.forget b').but (Vgr S b') hstep.toExt hwf hkp rfl) (λu hu=>?_),λ_ _=>rfl⟩;rcases hu with⟨rfl,rfl,h⟩|⟨blk',h0,h,rfl,h3⟩
    ·rw[g1]at h;cases h
    ·rw[g1]at h;simp only[Zd]at h;subst h;simp only[Rep]
     have hlen:(l'.take n').length=n':=by simp;omega
     have htake:=Veg es n' g6;refine⟨some ⟨blk,0,none⟩,G.cp blk,es.take n',sz,by rw[hlen],(RepL.mono hU (Imm.refl _ _) _ _ g5).take n',λx hx=>g6 x (List.mem_of_mem_take hx),by simp,by rw[hlen];exact h3,λ_ ad had=>by simp at had;subst had;rfl,.inr ⟨blk,0,rfl,by simp[Gh.setU],λj x hj=>?_⟩⟩
     have hj':=hj;rw[htake,List.getElem?_take]at hj'
     split at hj'
     ·have hlt2:j<(Va1 es).length:=by
       rcases Nat.lt_or_ge j (Va1 es).length with q|q
       ·exact q
       ·rw[List.getElem?_eq_none q]at hj';cases hj'
      have harr:arr.toList[j]? =some x:=by rw[g7,Zu hlt2];exact hj'
      exact⟨by simpa[World.cell?,g2]using harr,g8 x (Ya hj')⟩
     ·cases hj'
  ·cases hv
 ·cases hv
theorem tell_weak{S:St}{b e sz:Nat}{l l':List AV}(hb:S.bx.lookup b=some (.vec e sz l))(h:l=l'):Weak S (S.setBox b (.vec e sz l')):=by
 subst h;intro G w a hr;refine⟨hr.wf,hr.size,hr.fr,λp hp=>?_,hr.gn,hr.defers⟩;simp only[St.setBox,Zy]at hp;obtain⟨q,hq,rfl⟩:=hp
 split
 ·rename_i hqb;rw[hqb];exact hr.bx _ (Vad hb)
 ·exact hr.bx q hq
theorem TELL{P:Program}{α:Type}{K:α->Exit->St->Prop}{M:α}{X:Cf}(t b e sz:Nat)(h:(Vcd (stOf X) (some t),decide (b<1000),(stOf X).names b)=(.nil,true,false))(hn:Nx P K M (reSt X (((stOf X).put (some t) (.vs b 0)).addBox b (.vec e sz [])))):Nx P K M X:=by
 simp only[Zh]at h;exact Voc (ghost_tell h.1 (of_decide_eq_true h.2.1) h.2.2) hn
theorem FRZ{P:Program}{α:Type}{K:α->Exit->St->Prop}{M:α}{X:Cf}(t b:Nat){n:Nat}{l l':List AV}(h:vecOf (stOf X) t b=some (n,l))(hn:n<=l.length)(hl:l.take n=l')(hx:Nx P K M (reSt X (((stOf X).forget b).put (some t) (.av (.sl l'))))):Nx P K M X:=by
 subst hl;exact Voc (Vj6 h hn) hx
def vbox(S:St)(b:Nat):Option (Nat×Nat×List AV):=match S.bx.lookup b with
 |some (.vec e sz l)=>some (e,sz,l)
 |_=>none
theorem BOX{P:Program}{α:Type}{K:α->Exit->St->Prop}{M:α}{X:Cf}(b:Nat){e sz:Nat}{l l':List AV}(h:vbox (stOf X) b=some (e,sz,l))(hl:l=l')(hn:Nx P K M (reSt X ((stOf X).setBox b (.vec e sz l')))):Nx P K M X:=by
 have hb:(stOf X).bx.lookup b=some (.vec e sz l):=by
  unfold vbox at h;split at h
  ·rename_i h2;simp only[Zd,Zh]at h;obtain⟨rfl,rfl,rfl⟩:=h;exact h2
  ·cases h
 obtain⟨hn⟩:=hn;unfold reSt at hn
 split at hn
 ·rename_i c o d ks S;exact⟨Vai (tell_weak hb hl) hn⟩
 ·exact hn.elim
end Go.Eng
namespace Go.Eng
variable {P:Program}
theorem step_bindc2{G:Gh}{w:World}(hw:Wf G w)(o:Obj)(id c:Nat):
  Step G w (G.bindc id w.heap.size c) (w.alloc o)/\Wf (G.bindc id w.heap.size c) (w.alloc o)/\∀ κ,κ≠(id,0)->Keep G w (G.bindc id w.heap.size c) (w.alloc o) κ:=by
 obtain⟨s1,s2,s3⟩:=Ve4 hw o id;exact⟨⟨⟨s1.U,s1.imm,s1.size,s1.os,s1.tape,s1.output,λb hb=>if_neg kv,s1.gen,s1.tok⟩,s1.stay,s1.rng⟩,⟨s2.inj,s2.lt,s2.zero⟩,s3⟩
theorem Vh0{o:Oper}{S:St}{t e:TypeId}{sz bt:Nat}{z:Value}{x y:Operand}{k k':IntKind}{m n id:Nat}{X:ABox}(ho:o.op=.makeSlice t x y)(hx:S.ev x=.av (.val (.int k (m:Int))))(hy:S.ev y=.av (.val (.int k' (n:Int))))(hmn:m<=n)
  (ht:Vbb P t=some e) (hi:Vak P e=some (sz,bt,some z)) (hb:bt*n<=281474976710656) (h63:n<=9223372036854775807) (hid:id<1000) (hn:S.names id=false)
  (hX:∀(G:Gh)(w:World)(blk:Nat),blk<w.heap.size->G.ow (id,0)=some blk->w.heap[blk]? =some (.cells (madeCells z.cells (n*sz)) e (0,0))->G.U blk=0->G.cp blk=n->RepB G w id X):Sound P o S ⟨True,.vs id m,S.addBox id X⟩:=by
 intro _ G w a hr
 have h1:=hr.ev x;rw[hx]at h1;simp only[RepS,Rep]at h1
 have h2:=hr.ev y;rw[hy]at h2;simp only[RepS,Rep]at h2;obtain⟨i,e1,e2,e3,e4⟩:∃ i,P.info? e=some i/\i.size=sz/\i.bytes=bt/\i.zero=some z:=by
  unfold Vak at hi;cases hI:P.info? e with
  |none=>rw[hI]at hi;simp at hi
  |some i=>rw[hI]at hi;simp at hi;exact⟨i,rfl,hi.1,hi.2.1,hi.2.2⟩
 subst e2 e3
 have hbi:(i.bytes:Int)*(n:Int)<=281474976710656:=by
  have h:((i.bytes*n:Nat):Int)<=281474976710656:=by omega
  rwa[Int.natCast_mul]at h
 have hrun:=run_make (P:=P) w t e i z (Vhf ht) e1 e4 k k' m n kv kv hbi kv;simp only[Int.toNat_natCast]at hrun;obtain⟨s1,s2,s3⟩:=step_bindc2 hr.wf (.cells (madeCells z.cells (n*i.size)) e) id n
 have hr1:=hr.but hn s1.toExt s2 s3 rfl;refine⟨_,_,_,_,?_,.inl rfl,s1,hr1.add (hX _ _ w.heap.size ku (by simp[Gh.bindc]) (Vat w _) ?_ (by simp[Gh.bindc])),.inr ⟨w.heap.size,by simp,by simp[Gh.bindc],rfl,by simp[Gh.bindc];omega⟩,λj hj=>?_⟩
 ·simp only[execOp,ho,h1.1,h2.1,hrun];simp[hrun,Gh.bindc]
 ·exact hr.wf.zero _ (Zg _)
 ·simp only[Gh.bindc];rw[if_neg (by intro h;simp only[Zh]at h;omega)]
theorem made_head(zc:Array Value)(n:Nat)(h1:1<=n):∃ rest,(madeCells zc (n*zc.size)).toList=zc.toList++rest:=by
 refine⟨(madeCells zc (n*zc.size)).toList.drop zc.size,?_⟩
 have h:(madeCells zc (n*zc.size)).toList.take zc.size=zc.toList:=by
  have hle:zc.size<=n*zc.size:=by
   have:=Z9 zc.size h1;omega
  apply List.ext_getElem
  ·simp[madeCells];omega
  ·intro i h1 h2
   have:i<zc.size:=by simpa using h2
   simp[madeCells,Nat.mod_eq_of_lt this,this]
 rw[<-h,List.take_append_drop]
def rowK(b e:Nat)(j:Nat):Key:=(b+j,e+1)
def Vdb(b e:Nat)(R:Nat->List AV)(n:Nat):List SV:=(Zj n).map (λj=>SV.own (rowK b e j) (R j).length 1 (R j))
def rowsG(b e:Nat)(R:Nat->List AV)(n:Nat):List (Key×Nat):=(Zj n).map (λj=>(rowK b e j,(R j).length))
theorem rows_sl{G:Gh}{w:World}:∀(ks:List (Key×List AV)){us:List Value},RepSs G w (ks.map (λp=>SV.own p.1 p.2.length 1 p.2)) us->RepL G.U w (ks.map (λp=>AV.sl p.2)) us
 |[],us,h=>by
  have h:us=[]:=h;subst h;simp[RepL]
 |k::ks,us,h=>by
  obtain⟨u,us',rfl,h1,h2⟩:=h;simp only[List.map_cons,RepL];exact⟨u,us',rfl,RepS.own_sl h1,rows_sl ks h2⟩
def rowsA(R:Nat->List AV)(n:Nat):List AV:=(Zj n).map (λj=>AV.sl (R j))
theorem rowsS_rep{G:Gh}{w:World}{b e:Nat}{R:Nat->List AV}{n:Nat}{us:List Value}(h:RepSs G w (Vdb b e R n) us):RepL G.U w (rowsA R n) us:=by
 have:=rows_sl (G:=G) (w:=w) ((Zj n).map (λj=>(rowK b e j,R j))) (us:=us) (by rw[List.map_map];exact h);rw[List.map_map]at this;exact this
theorem Var{ops:Array Oper}{o:Oper}{rest:List Oper}{Q:St->Prop}{S:St}(v:SV)(d:Nat)(hg:(o.guard,o.dst)=(none,some d))(h:Vb6 P o S=some ⟨True,v,S⟩)(hn:WO P ops rest Q (S.put (some d) v)):WO P ops (o::rest) Q S:=by
 simp only[Zh]at hg;refine Vbv hg.1 (Vau h) trivial ?_;rw[hg.2];exact hn
theorem WO_pureP{ops:Array Oper}{o:Oper}{rest:List Oper}{Q:St->Prop}{S:St}{p:Prop}(v:SV)(d:Nat)(hp:p)(hg:(o.guard,o.dst)=(none,some d))(h:Vb6 P o S=some ⟨p,v,S⟩)(hn:WO P ops rest Q (S.put (some d) v)):WO P ops (o::rest) Q S:=by
 simp only[Zh]at hg;refine Vbv hg.1 (Vau h) hp ?_;rw[hg.2];exact hn
theorem Vc5{ops:Array Oper}{o:Oper}{rest:List Oper}{Q:St->Prop}{S S':St}(v:SV)(d:Nat)(hg:(o.guard,o.dst)=(none,some d))(h:Sound P o S ⟨True,v,S'⟩)(hn:WO P ops rest Q (S'.put (some d) v)):WO P ops (o::rest) Q S:=by
 simp only[Zh]at hg;refine Vbv hg.1 h trivial ?_;rw[hg.2];exact hn
theorem WKg{S:St}{n:Nat}{l:List (Nat×SV)}{bx:List (Nat×ABox)}{gn:List (Key×Nat)}(h:(S.fr.length,(Viu l).map (λk=>S.fr[k]?),(Vqd bx).map (λb=>S.bx.lookup b))=(n,Vir l,Vqc bx))(hg:∀ k:Key,S.gen k=(gn.lookup k).getD 0):Weak S (sx n l bx gn):=by
 simp only[Zh]at h;obtain⟨h1,h2,h3⟩:=h
 have hw:=Vfx (S:=S) (n:=n) (l:=l) (bx:=bx) (gn:=S.gn) (by simp only[seesB,h1,h2,h3]);intro G w a hr
 have hr2:=hw G w a hr;exact⟨hr2.wf,hr2.size,hr2.fr,hr2.bx,λk=>by rw[hr2.gn k];exact hg k,hr2.defers⟩
theorem rowsS_get{b e:Nat}{R:Nat->List AV}{n i:Nat}(h:i<n):(Vdb b e R n)[i]? =some (.own (rowK b e i) (R i).length 1 (R i)):=by simp[Vdb,h]
theorem Vpc(S:St)(k κ:Key):(S.next k).gen κ=if κ=k then S.gen k+1 else S.gen κ:=by
 have h:=Veq (G:={U:=λ_=>0,cp:=λ_=>0,ow:=λ_=>none,gen:=S.gen,df:=[]}) (S:=S) (λ_=>rfl) k 0 κ;rw[<-h];simp only[Gh.next]
 by_cases hk:κ=k
 ·rw[if_pos hk,if_pos hk,hk]
 ·rw[if_neg hk,if_neg hk]
theorem WO_ownN{ops:Array Oper}{o:Oper}{rest:List Oper}{Q:St->Prop}{S S':St}{v:SV}(hg:(o.guard,o.dst)=(none,none))(h:Sound P o S ⟨True,v,S'⟩)(hn:WO P ops rest Q S'):WO P ops (o::rest) Q S:=by
 simp only[Zh]at hg;refine Vbv hg.1 h trivial ?_;rw[hg.2];exact hn
end Go.Eng
namespace Go.Eng
def Vlj(P:Program)(f:FuncId)(args:List SV)(nb:List (Nat×ABox))(res:SV):Prop:=
 Vhs P f/\∀(G:Gh)(w:World)(vs:List Value),Wf G w->RepSs G w args vs->
  Calls P f vs.toArray w (λe w'=>∃ v G',e=.returned v/\Step G w G' w'/\Wf G' w'/\RepS G' w' res v/\(∀p∈nb,RepB G' w' p.1 p.2)/\
   (∀κ:Key,(κ.1 ∉ nb.map (·.1)\/κ.2≠0)->Keep G w G' w' κ)/\∀ κ:Key,G'.gen κ=G.gen κ)
section
variable {P:Program}
theorem Vli {f : FuncId} {fn : Func} {c : Code} (hf : P.funcs[f]? = some fn) (hb : fn.body = some c) (hname : (fn.name == "runtime.NumGoroutine") = false) {args : List SV} {nb : List (Nat × ABox)} {res : SV} {n : Nat} (hn : fn.ntmps = n)
  (hle:args.length<=n) (hargs:∀ s∈args,OkSV [] [] s) (hres:OkSV (nb.map (·.1)) [] res) (hbx':∀ p∈nb,∀s∈p.2.svs,OkSV (nb.map (·.1)) [] s)
  (h:W P c (Ends P fn res nb []) ⟨args++List.replicate (n-args.length) .junk,[],[]⟩):Vlj P f args nb res:=by
 refine⟨⟨fn,hf,by rw[hb];rfl,hname⟩,?_⟩;intro G w vs hw hr
 have hlv:=hr.length
 let ids:=nb.map (·.1)
 let mine:Key->Prop:=λκ=>κ.1∈ids/\κ.2=0
 have hdec:∀ κ,mine κ\/¬ mine κ:=λκ=>Classical.em _
 let G0:Gh:={U:=G.U,cp:=G.cp,ow:=λ_=>none,gen:=λ_=>0,df:=[]}
 have hw0:Wf G0 w:=⟨λκ κ' b h1 h2=>by simp[G0]at h1,λκ b h1=>by simp[G0]at h1,hw.zero⟩
 have hrel:Rel G0 w ⟨args++List.replicate (n-args.length) .junk,[],[]⟩ {tmps:=vs.toArray++Z1 (fn.ntmps-vs.toArray.size) undef,defers:=[]}:=by
  refine⟨hw0,?_,λt s ht=>?_,λp hp=>by simp at hp,λk=>rfl,rfl⟩
  ·simp[hlv,hn]
  ·simp only at ht;rcases Nat.lt_or_ge t args.length with hlt|hge
   ·rw[Zu hlt]at ht
    have hr0:=Vbt (G:=G) (G':=G0) (ids:=[]) (gn:=[]) rfl rfl (λi hi=>by simp at hi) (λk g hl=>by simp at hl) hargs hr;obtain⟨u,h1,h2⟩:=hr0.get t s ht
    have:(vs.toArray++Z1 (fn.ntmps-vs.toArray.size) undef).getD t undef=u:=by
     have hlt':t<vs.length:=by omega
     simp only[Zb];rw[Array.getElem?_append_left (by simpa using hlt')];simp[h1]
    rw[this];exact h2
   ·rw[List.getElem?_append_right hge,List.getElem?_replicate]at ht
    split at ht
    ·simp at ht;subst ht;trivial
    ·simp at ht
 refine calls_of_wp hf hb (Code.wp_mono (λe a w' hl=>?_) (h G0 w _ hrel));obtain⟨S',G1,h1,h2,h3,h4⟩:=hl
 have done:(∃keep,aRes P fn S' keep=some res)/\(∀p∈nb,S'.bx.lookup p.1=some p.2)/\(∀p∈([]:List (Key×Nat)),S'.gen p.1=p.2)->a.defers=[]/\∃ v,(results fn a.tmps).run P w'=.ok v w'/\
   ∃v_1 G',Ending.returned v=.returned v_1/\Step G w G' w'/\Wf G' w'/\RepS G' w' res v_1/\(∀p∈nb,RepB G' w' p.1 p.2)/\(∀κ:Key,(κ.1 ∉ nb.map (·.1)\/κ.2≠0)->Keep G w G' w' κ)/\∀ κ:Key,G'.gen κ=G.gen κ:=by
  rintro⟨⟨keep,g1⟩,g2,_⟩;obtain⟨v,e1,e2⟩:=Vmn g1 h3
  let G':Gh:={U:=G1.U,cp:=G1.cp,ow:=λκ=>@ite _ (mine κ) (Classical.propDecidable _) (G1.ow κ) (G.ow κ),gen:=G.gen,df:=G.df}
  have hG':∀ κ:Key,mine κ->G'.ow κ=G1.ow κ:=λκ hκ=>by simp only[G'];rw[if_pos hκ]
  have hG'n:∀ κ:Key,¬mine κ->G'.ow κ=G.ow κ:=λκ hκ=>by simp only[G'];rw[if_neg hκ]
  have hnot:∀ κ b,G.ow κ=some b->w'.heap[b]? =w.heap[b]? /\G1.U b=G.U b:=λκ b hb=>
   h2.stay b (hw.lt κ b hb) (λκ2 h'=>by simp[G0]at h')
  have hnew:∀ κ b,G1.ow κ=some b->w.heap.size<=b:=by
   intro κ b hb;rcases h2.rng κ b hb with⟨κ',h'⟩|h'
   ·simp[G0]at h'
   ·exact h'
  have hkeep:∀ κ:Key,¬mine κ->Keep G w G' w' κ:=λκ hκ=>⟨hG'n κ hκ,λb hb=>hnot κ b hb⟩
  have hid1:∀ i:Nat,i∈ids->G'.ow (i,0)=G1.ow (i,0):=λi hi=>hG' (i,0) ⟨hi,rfl⟩
  have how:∀ κ b,G'.ow κ=some b->(mine κ/\G1.ow κ=some b)\/(¬mine κ/\G.ow κ=some b):=by
   intro κ b hκ;rcases hdec κ with hm|hm
   ·rw[hG' κ hm]at hκ;exact .inl ⟨hm,hκ⟩
   ·rw[hG'n κ hm]at hκ;exact .inr ⟨hm,hκ⟩
  have hext:Ext G w G' w':=by
   refine⟨h2.U,h2.imm,h2.size,h2.os,Prod.ext h2.toExt.tp rfl,h2.output,h2.cp,λ_=>Zg _,λκ h0 hge=>?_⟩;exact hkeep κ (λhm=>by have:=hm.2;omega)
  refine⟨h3.defers.trans h2.toExt.df,v,e1,v,G',rfl,⟨hext,?_,?_⟩,⟨?_,?_,h3.wf.zero⟩,?_,?_,?_,λ_=>rfl⟩
  ·intro b hb' hno;exact h2.stay b hb' (λκ hκ=>by simp[G0]at hκ)
  ·intro κ b hκ;rcases how κ b hκ with⟨_,q⟩|⟨_,q⟩
   ·exact .inr (hnew κ b q)
   ·exact .inl ⟨κ,q⟩
  ·intro κ κ' b hκ hκ';rcases how κ b hκ with⟨m1,q1⟩|⟨m1,q1⟩ <;>rcases how κ' b hκ' with⟨m2,q2⟩|⟨m2,q2⟩
   ·exact h3.wf.inj κ κ' b q1 q2
   ·have:=hnew κ b q1;have:=hw.lt κ' b q2;omega
   ·have:=hnew κ' b q2;have:=hw.lt κ b q1;omega
   ·exact hw.inj κ κ' b q1 q2
  ·intro κ b hκ;rcases how κ b hκ with⟨_,q⟩|⟨_,q⟩
   ·exact h3.wf.lt κ b q
   ·have:=hw.lt κ b q;have:=h2.size;omega
  ·exact Vf3 (G:=G1) (G':=G') (ids:=ids) (gn:=[]) rfl rfl hres hid1 (λk g hl=>by simp at hl) e2
  ·intro p hp
   have:=h3.bx _ (Vad (g2 p hp));exact Vf4 (G:=G1) (G':=G') (ids:=ids) (gn:=[]) rfl rfl hid1 (λk g hl=>by simp at hl) (List.mem_map_of_mem hp) (hbx' p hp) this
  ·intro κ hκ;exact hkeep κ (λhm=>by rcases hκ with q|q;exact q hm.1;exact q hm.2)
 cases e with
 |normal=>exact done h1
 |ret=>exact done h1
 |exit id=>exact h1.elim
 |goto l=>exact h1.elim
 |panic ch=>exact h1.elim
 |outgrown=>exact h1.elim
theorem Rel_new{G G':Gh}{w w':World}{S:St}{a:Act}{nb:List (Nat×ABox)}(h:Rel G w S a)(hx:Ext G w G' w')(hw:Wf G' w')(hk:∀ κ:Key,(κ.1 ∉ nb.map (·.1)\/κ.2≠0)->Keep G w G' w' κ)(hg:∀ κ:Key,G'.gen κ=G.gen κ)(hb:∀ p∈nb,RepB G' w' p.1 p.2)
  (hn:nb.all (λp=> !S.names p.1)=true):Rel G' w' {S with bx:=nb++S.bx} a:=by
 have hn':∀ i∈nb.map (·.1),S.names i=false:=by
  intro i hi;simp only[Zy]at hi;obtain⟨p,hp,rfl⟩:=hi
  have:=Ze.1 hn p hp;simpa using this
 have hkS:∀ s:SV,(∀i∈nb.map (·.1),s.names i=false)->∀ κ∈s.keys,Keep G w G' w' κ:=by
  intro s hs κ hκ;refine hk κ (.inl λhi=>?_);exact Vby (hs κ.1 hi) κ hκ rfl
 refine⟨hw,h.size,λt s ht=>?_,λp hp=>?_,λk=>by rw[hg];exact h.gn k,h.defers.trans hx.df.symm⟩
 ·refine(h.fr t s ht).persist hx (λκ hκ=>(hkS s (λi hi=>?_) κ hκ).1)
  have:=hn' i hi;simp only[St.names,Bool.or_eq_false_iff]at this
  have h1:=this.1;rw[List.any_eq_false]at h1;simpa using h1 s (Ya ht)
 ·simp only[Z5]at hp;rcases hp with hp|hp
  ·exact hb p hp
  ·have hp':∀ i∈nb.map (·.1),p.1≠i/\p.2.svs.any (SV.names i)=false:=by
    intro i hi
    have:=hn' i hi;simp only[St.names,Bool.or_eq_false_iff]at this
    have h2:=this.2;rw[List.any_eq_false]at h2;simpa using h2 p hp
   refine(h.bx p hp).persist hx (hk _ (.inl λhi=>(hp' p.1 hi).1 rfl)) (λκ hκ=>?_);simp only[List.mem_flatMap]at hκ;obtain⟨s,hs,hs2⟩:=hκ;refine(hkS s (λi hi=>?_) κ hs2).1
   have:=(hp' i hi).2;rw[List.any_eq_false]at this;simpa using this s hs
theorem WO_new{ops:Array Oper}{o:Oper}{rest:List Oper}{Q:St->Prop}{S:St}{x:Operand}{args:Array Operand}{tys:Array TypeId}{f:FuncId}{fs cs:List PV}{nb:List (Nat×ABox)}{res:SV}(d:Nat)(hg:(o.guard,o.dst)=(none,some d))
  (ho:o.op=.call {callee:=.value x,args:=args,argTypes:=tys}) (hx:S.ev x=.fn f fs cs) (hc:Vlj P f (Vew S fs args.toList cs false) nb res) (hids:nb.all (λp=>decide (p.1<1000)||decide (2000<=p.1))=true) (hn:nb.all (λp=> !S.names p.1)=true)
  (h:WO P ops rest Q (St.put {S with bx:=nb++S.bx} (some d) res)):WO P ops (o::rest) Q S:=by
 simp only[Zh]at hg;refine WO_op (λG w a hr=>Vao hg.1 a) (λG w a hr Q' next hnx=>?_) h;obtain⟨⟨fn,hf1,hf2,hf3⟩,hcall⟩:=hc
 have h1:=hr.ev x;rw[hx]at h1;obtain⟨vs,us,h2,h3,h4⟩:=h1
 have hargs:=Vmq hr h3 h4 args.toList false
 have hcall:=hcall G w _ hr.wf hargs
 have hrun:(execOp a.eval o).run P w=.ok (.enter f (vs.toList++(args.toList.map a.eval++us.toList)).toArray) w:=by
  have hnone:fn.body.isNone=false:=by cases hb:fn.body <;>simp_all
  simp only[execOp,ho,resolve,h2,Deferred.ofValue,Sem.run_bind,Sem.run_pure,Result.andThen_ok,invoke,callFunc,run_program,hf1];rw[if_neg (by rw[hf3];simp)];simp only[hnone,Bool.false_eq_true,if_false,Sem.run_pure];congr 2;apply Array.ext';simp
 unfold Oper.wp;rw[hrun,Oper.upon_enter];refine hcall.mono ?_;rintro e w' ⟨v,G',rfl,s1,s2,s3,s4,s5,s6⟩
 have hrel:=Rel_new hr s1.toExt s2 s5 s6 s4 hn;rw[hg.2];refine hnx G' _ w' s1 (hrel.put (some d) s3) (λi hi=>?_);refine(s5 (i,0) (.inl λhm=>?_)).1;simp only[Zy]at hm;obtain⟨p,hp,hpe⟩:=hm
 have:=Ze.1 hids p hp;simp only[Zt,decide_eq_true_eq]at this
 have h5:p.1=i:=hpe;omega
theorem Nb_same{a:Act}{d:Nat}{v:Value}(h:d<a.tmps.size):(a.put (some d) v).eval (.tmp d)=v:=by
 simp only[Act.eval,Act.put,Zb];rw[Zk h];rfl
theorem Vhq{a:Act}{d t:Nat}{v:Value}(h:t≠d):(a.put (some d) v).eval (.tmp t)=a.eval (.tmp t):=by
 simp only[Act.eval,Act.put,Zb];rw[Zf (Ne.symm h)]
end
end Go.Eng
namespace Go.Eng
def okCb(gn:List (Key×Nat)):CV->Bool
 | .own k g _ _=>gn.lookup k==some g
 |_=>true
def okSb(ids:List Nat)(gn:List (Key×Nat)):SV->Bool
 | .own k g _ _=>gn.lookup k==some g
 | .ag l=>l.all (okCb gn)
 | .tp l=>l.all (λx=>match x with| .c x=>okCb gn x| .a l=>l.all (okCb gn))
 |s=>s.keys.all (λκ=>ids.contains κ.1)
theorem okCb_ok{gn:List (Key×Nat)}{x:CV}(h:okCb gn x=true):OkCV gn x:=by
 cases x with
 |own k g sz l=>simpa[okCb,OkCV]using h
 |_=>trivial
theorem Vcs{ids:List Nat}{gn:List (Key×Nat)}{s:SV}(h:okSb ids gn s=true):OkSV ids gn s:=by
 have key:∀ l:List Key,l.all (λκ=>ids.contains κ.1)=true->∀ κ∈l,κ.1∈ids:=λl hl κ hκ=>by
  have:=Ze.1 hl κ hκ;simpa using this
 cases s with
 |own k g sz l=>simpa[okSb,OkSV]using h
 |ag l=>exact λx hx=>okCb_ok (Ze.1 h x hx)
 |tp l=>
  intro x hx
  have h1:=Ze.1 h x hx;cases x with
  |c x=>exact okCb_ok h1
  |a l=>exact λy hy=>okCb_ok (Ze.1 h1 y hy)
 |junk=>exact key _ h
 |clo l=>exact key _ h
 |nil=>exact key _ h
 |av x=>exact key _ h
 |ptr b o=>exact key _ h
 |mp b=>exact key _ h
 |fn f fs cs=>exact key _ h
 |son b=>exact key _ h
 |vs b n=>exact key _ h
 |vp b sz i o=>exact key _ h
 |vw b sz o n=>exact key _ h
def okB(ids:List Nat)(gn:List (Key×Nat))(bx:List (Nat×ABox)):Bool:=bx.all (λp=>p.2.svs.all (okSb ids gn))
def Vkd(fn:Func)(args:List SV)(bx:List (Nat×ABox))(gn:List (Key×Nat))(res:SV)(bx':List (Nat×ABox))(gn':List (Key×Nat)):Bool:=
 fn.body.isSome && !(fn.name == "runtime.NumGoroutine") && decide (args.length <= fn.ntmps) && bx.all (λp => decide (1000 <= p.1)) && gn.all (λp => decide (1000 <= p.1.1) && decide (0 < p.1.2)) &&
  args.all (okSb (bx.map (·.1)) gn)&&okB (bx.map (·.1)) gn bx&&okSb (bx.map (·.1)) gn' res&&okB (bx.map (·.1)) gn' bx'&&(bx'.map (·.1)==bx.map (·.1))&&(gn'.map (·.1)==gn.map (·.1))&&bx'.all (λp=>decide (p.1<2000)||(Vb8 bx').contains p.1)
section
variable {P:Program}
theorem Vg8{ids:List Nat}{gn:List (Key×Nat)}{bx:List (Nat×ABox)}(h:okB ids gn bx=true):∀ p∈bx,∀s∈p.2.svs,OkSV ids gn s:=
 λp hp s hs=>Vcs (Ze.1 (Ze.1 h p hp) s hs)
def KS(P:Program)(fn:Func)(res:SV)(bx':List (Nat×ABox))(gn':List (Key×Nat))(_:Unit):Exit->St->Prop:=Ends P fn res bx' gn'
theorem BEGs{f:FuncId}{fn:Func}{args:List SV}{bx bx':List (Nat×ABox)}{gn gn':List (Key×Nat)}{res:SV}(hf:P.funcs[f]? =some fn)(hok:Vkd fn args bx gn res bx' gn'=true)
  (h:Nx P (KS P fn res bx' gn') () (start (Vbc fn) ⟨args++List.replicate (fn.ntmps-args.length) .junk,bx,gn⟩)):Va2 P f args bx gn res bx' gn':=by
 simp only[Vkd,Zc,decide_eq_true_eq,Zo,beq_iff_eq]at hok;obtain⟨⟨⟨⟨⟨⟨⟨⟨⟨⟨⟨h1,h2⟩,h3⟩,h4⟩,h5⟩,h6⟩,h7⟩,h8⟩,h9⟩,h10⟩,h11⟩,h12⟩:=hok;obtain⟨c,hb⟩:=Z4.1 h1
 have e:Vbc fn=c:=by simp[Vbc,hb]
 refine Ve3 hf hb h2 rfl h3 (λp hp=>?_) (λp hp=>?_) (λs hs=>Vcs (Ze.1 h6 s hs)) (Vg8 h7) (Vcs h8) (Vg8 h9) h10 h11 ?_ (λp hp=>?_)
 ·have:=Ze.1 h4 p hp;simpa using this
 ·have:=Ze.1 h5 p hp;simpa using this
 ·rw[<-e];exact h.x
 ·have:=Ze.1 h12 p hp;simpa using this
theorem ENs{fn:Func}{res:SV}{bx':List (Nat×ABox)}{gn':List (Key×Nat)}{M:Unit}{X:Cf}(h:Vls P fn X=some res)(hb:bx'.map (λp=>(stOf X).bx.lookup p.1)=bx'.map (λp=>some p.2))(hg:gn'.map (λp=>(stOf X).gen p.1)=gn'.map (·.2)):Nx P (KS P fn res bx' gn') M X:=by
 have hb':∀ p∈bx',(stOf X).bx.lookup p.1=some p.2:=λp hp=>List.map_inj_left.1 hb p hp
 have hg':∀ p∈gn',(stOf X).gen p.1=p.2:=λp hp=>List.map_inj_left.1 hg p hp
 unfold Vls at h
 split at h
 ·exact⟨ends (.inl rfl) h rfl hb' hg'⟩
 ·exact⟨ends (.inr rfl) h rfl hb' hg'⟩
 ·simp at h
def Vp0(id:Nat):Code->Option (Array Oper)
 | .region i ops _=>if i=id then some ops else none
 | .seq x y=>(Vp0 id x).orElse (λ_=>Vp0 id y)
 | .cond _ x y=>(Vp0 id x).orElse (λ_=>Vp0 id y)
 | .block _ c=>Vp0 id c
 | .loop c=>Vp0 id c
 |_=>none
def Va7(id:Nat)(fn:Func):Array Oper:=(Vp0 id (Vbc fn)).getD #[]
def regO(id:Nat)(fn:Func)(i:Nat):Oper:=(Va7 id fn).getD i ((Va7 id fn).getD 0 default)
def okNew(fn:Func)(args:List SV)(nb:List (Nat×ABox))(res:SV):Bool:=
 fn.body.isSome && !(fn.name == "runtime.NumGoroutine") && decide (args.length <= fn.ntmps) && args.all (okSb [] []) && okSb (nb.map (·.1)) [] res && okB (nb.map (·.1)) [] nb
theorem BEGn{f:FuncId}{fn:Func}{args:List SV}{nb:List (Nat×ABox)}{res:SV}(hf:P.funcs[f]? =some fn)(hok:okNew fn args nb res=true)
  (h:Nx P (KS P fn res nb []) () (start (Vbc fn) ⟨args++List.replicate (fn.ntmps-args.length) .junk,[],[]⟩)):Vlj P f args nb res:=by
 simp only[okNew,Zc,decide_eq_true_eq,Zo]at hok;obtain⟨⟨⟨⟨⟨h1,h2⟩,h3⟩,h4⟩,h5⟩,h6⟩:=hok;obtain⟨c,hb⟩:=Z4.1 h1
 have e:Vbc fn=c:=by simp[Vbc,hb]
 refine Vli hf hb h2 rfl h3 (λs hs=>Vcs (Ze.1 h4 s hs)) (Vcs h5) (Vg8 h6) ?_;rw[<-e];exact h.x
end
end Go.Eng
namespace Go.Eng
open Go
section
variable {P:Program} {α:Type}
theorem gO{K:α->Exit->St->Prop}{M:α}{X:Cf}(oc:OC)(hn:Nx P K M (adv P X oc.o))(h:csOf (adv P X oc.o)=some oc.c:=by kernel_rfl):Nx P K M X:=GO oc h hn
theorem uN{K:α->Exit->St->Prop}{M:α}{X:Cf}(S0:St)(n:Nat)(h:Nx P (KU P (lpC X) (lpK X) K n) M (start (lpC X) S0))(hX:isLp X=true:=by kernel_rfl)(hw:Weak (stOf X) S0:=by exact WK kx):Nx P K M X:=UN S0 n hX hw h
theorem uA{c:Code}{ks:List Fm}{K:α->Exit->St->Prop}{M:α}{X:Cf}{n:Nat}(S0:St)(h:Nx P (KU P c ks K n) M (start c S0))(hX:Vnr X=some .normal:=by kernel_rfl)(hw:Weak (stOf X) S0:=by exact WK kx):Nx P (KU P c ks K (n+1)) M X:=UA S0 hX hw h
theorem uO{c:Code}{ks:List Fm}{K:α->Exit->St->Prop}{M:α}{X:Cf}{n:Nat}(oc:OC)(hn:Nx P K M (outX P ks X oc.o))(h:csOf (outX P ks X oc.o)=some oc.c:=by kernel_rfl):Nx P (KU P c ks K n) M X:=UO oc h hn
theorem bG{f:FuncId}{fn:Func}{args:List SV}{res:SV}(hf:P.funcs[f]? =some fn)(h:Nx P (KE P fn (λ_:Unit=>res) [] []) () (start (Vbc fn) ⟨args++List.replicate (fn.ntmps-args.length) .junk,[],[]⟩))(hok:okFn fn args res=true:=by kernel_rfl):Va2 P f args [] [] res [] []:=BEG (λ_:Unit=>res) () hf hok h
theorem eN{fn:Func}{enc:α->SV}{M:α}{X:Cf}(h:Vls P fn X=some (enc M):=by kernel_rfl):Nx P (KE P fn enc [] []) M X:=EN h
theorem bGs{f:FuncId}{fn:Func}{args:List SV}{bx bx':List (Nat×ABox)}{gn gn':List (Key×Nat)}{res:SV}(hf:P.funcs[f]? =some fn)
  (h:Nx P (KS P fn res bx' gn') () (start (Vbc fn) ⟨args++List.replicate (fn.ntmps-args.length) .junk,bx,gn⟩)) (hok:Vkd fn args bx gn res bx' gn'=true:=by kernel_rfl):Va2 P f args bx gn res bx' gn':=BEGs hf hok h
theorem eNs{fn:Func}{res:SV}{bx':List (Nat×ABox)}{gn':List (Key×Nat)}{M:Unit}{X:Cf}(h:Vls P fn X=some res:=by kernel_rfl)(hb:bx'.map (λp=>(stOf X).bx.lookup p.1)=bx'.map (λp=>some p.2):=by kernel_rfl)(hg:gn'.map (λp=>(stOf X).gen p.1)=gn'.map (·.2):=by kernel_rfl):Nx P (KS P fn res bx' gn') M X:=ENs h hb hg
end
end Go.Eng
namespace Go.Eng
variable {P:Program}
def Viv(ops:Array Oper)(n:Nat):Nat->Array Bool->Bool
  |0,L=>(Zj n).all (λi=>L.getD i false)&&Region.seqB .any ops (ops.size-n) n L
  |f+1,L=> !(Region.ready .any ops L).isEmpty&&(Region.ready .any ops L).all (λi=>(decide (i<n)&&Viv ops n f (L.setIfInBounds i true))||
      (decide (i=n)&&decide (f=0)&& !L.getD 0 false&&(Zj n).all (λi=>decide (i=0)||L.getD i false)&&decide (Region.ready .any ops (L.setIfInBounds n true)=[0])&&Region.seqB .any ops (ops.size-(n+1)) (n+1) ((L.setIfInBounds n true).setIfInBounds 0 true)))
def opdOk(ds:List Nat)(i:Nat)(o:Oper):Operand->Bool
 | .tmp t=> !ds.contains t||o.after.toList.any (λe=>Region.binds .any e&&decide (e.on<i)&&(ds[e.on]? ==some t))
 |_=>true
def Vkq(P:Program)(ds:List Nat):Nat->List Oper->St->Option (List Prop×St)
 |_,[],S=>some ([],S)
 | i,o::rest,S=>match o.guard,o.dst with
  | none,some d=>match still o.op&&Vch o.op&& !opVs o S&&decide (ds[i]? =some d)&&decide (d<S.fr.length)&&o.op.operands.toList.all (opdOk ds i o),Vb6 P o S with
   |true,some r=>match Vkq P ds (i+1) rest (S.put (some d) r.v)with
    |some (cs,S')=>some (r.ok::cs,S')
    |none=>none
   |_,_=>none
  |_,_=>none
theorem Vpr{ds:List Nat}:∀(l:List Oper)(i:Nat)(S Sc:St)(cs:List Prop),Vkq P ds i l S=some (cs,Sc)->Sc.fr.length=S.fr.length/\Sc.bx=S.bx/\Sc.gn=S.gn
 |[],i,S,Sc,cs,h=>by simp only[Vkq,Zd,Zh]at h;obtain⟨_,rfl⟩:=h;exact⟨rfl,rfl,rfl⟩
 | o::rest,i,S,Sc,cs,h=>by
  unfold Vkq at h
  split at h
  ·split at h
   ·split at h
    ·rename_i h2;simp only[Zd,Zh]at h;obtain⟨_,rfl⟩:=h;obtain⟨q1,q2,q3⟩:=Vpr rest _ _ _ _ h2;exact⟨by rw[q1];simp[St.put],q2,q3⟩
    ·simp at h
   ·simp at h
  ·simp at h
theorem Vgp{ds:List Nat}:∀(l:List Oper)(i:Nat)(S Sc:St)(cs:List Prop),Vkq P ds i l S=some (cs,Sc)->∀ t:Nat,(∀j,i<=j->j<i+l.length->ds[j]? ≠some t)->Sc.fr[t]? =S.fr[t]?
 |[],i,S,Sc,cs,h,t,ht=>by simp only[Vkq,Zd,Zh]at h;obtain⟨_,rfl⟩:=h;rfl
 | o::rest,i,S,Sc,cs,h,t,ht=>by
  unfold Vkq at h
  split at h
  ·rename_i d hg hd
   split at h
   ·rename_i r hc ha;simp only[Zc,decide_eq_true_eq]at hc
    split at h
    ·rename_i h2;simp only[Zd,Zh]at h;obtain⟨_,rfl⟩:=h;rw[Vgp rest (i+1) _ _ _ h2 t (λj h1 h3=>ht j kv (by simp only[List.length_cons];omega))]
     have:d≠t:=λe=>ht i (Zg _) ku (by rw[<-e];exact hc.1.1.2)
     simp only[St.put,Zq];rw[if_neg this]
    ·simp at h
   ·simp at h
  ·simp at h
theorem headL_at{ds:List Nat}(hnd:ds.Nodup):∀(l:List Oper)(i:Nat)(S Sc:St)(cs:List Prop),Vkq P ds i l S=some (cs,Sc)->All cs->∀(k:Nat)(o:Oper),l[k]? =some o->
  ∃(d:Nat)(Si:St)(p:Prop)(v:SV),o.guard=none/\o.dst=some d/\ds[i+k]? =some d/\d<S.fr.length/\still o.op=true/\Vch o.op=true/\opVs o Si=false/\Vb6 P o Si=some ⟨p,v,Si⟩/\p/\Sc.fr[d]? =some v/\Si.bx=S.bx/\Si.gn=S.gn/\
   (∀x∈o.op.operands,opdOk ds (i+k) o x=true)/\(∀t:Nat,(∀j,i<=j->j<i+k->ds[j]? ≠some t)->Si.fr[t]? =S.fr[t]?)/\(∀j d',i<=j->j<i+k->ds[j]? =some d'->Si.fr[d']? =Sc.fr[d']?)
 |[],i,S,Sc,cs,h,hc,k,o,ho=>by simp at ho
 | o'::rest,i,S,Sc,cs,h,hc,k,o,ho=>by
  have hall:=h;unfold Vkq at h
  split at h
  ·rename_i d hg hd
   split at h
   ·rename_i r hx ha;simp only[Zc,decide_eq_true_eq,Zo]at hx;obtain⟨⟨⟨⟨⟨x1,x2⟩,x3⟩,x4⟩,x5⟩,x6⟩:=hx
    split at h
    ·rename_i cs2 S2 h2;simp only[Zd,Zh]at h;obtain⟨rfl,rfl⟩:=h
     have hst:=Vex ha x1
     have hother:∀ t:Nat,(∀j,i+1<=j->j<i+1+rest.length->ds[j]? ≠some t)->S2.fr[t]? =(S.put (some d) r.v).fr[t]? :=Vgp rest _ _ _ _ h2
     have hput:(S.put (some d) r.v).fr[d]? =some r.v:=by simp only[St.put,Zq];simp[x5]
     have hdn:∀ j,ds[j]? =some d->j=i:=λj hj=>by
      have h1:=Z3.1 hj
      have h3:=Z3.1 x4;obtain⟨g1,g2⟩:=h1;obtain⟨g3,g4⟩:=h3
      have hp:=List.pairwise_iff_getElem.1 hnd;rcases Nat.lt_trichotomy j i with hlt|he|hlt
      ·exact absurd (g2.trans g4.symm) (hp j i g1 g3 hlt)
      ·exact he
      ·exact absurd (g4.trans g2.symm) (hp i j g3 g1 hlt)
     cases k with
     |zero=>
      simp only[List.getElem?_cons_zero,Zd]at ho;subst ho;refine⟨d,S,r.ok,r.v,hg,hd,x4,x5,x1,x2,x3,by rw[ha,res_self hst],hc.1,?_,rfl,rfl,λx hx=>Ze.1 x6 x (by simpa using hx),λt _=>rfl,λj d' h3 h4=>by omega⟩;rw[hother d (λj h3 _ h5=>by have:=hdn j h5;omega)];exact hput
     | succ k=>
      simp only[List.getElem?_cons_succ]at ho;obtain⟨d2,Si,p,v,y1,y2,y3,y4,y5,y6,y7,y8,y9,y10,y11,y12,y13,y14,y15⟩:=headL_at hnd rest (i+1) _ _ _ h2 hc.2 k o ho
      have e:i+1+k=i+(k+1):=by omega
      rw[e]at y3 y13 y14 y15;refine⟨d2,Si,p,v,y1,y2,y3,by simpa[St.put]using y4,y5,y6,y7,y8,y9,y10,y11,y12,y13,λt ht=>?_,λj d' h3 h4 h5=>?_⟩
      ·rw[y14 t (λj h3 h4=>ht j kv h4)]
       have:d≠t:=λe=>ht i (Zg _) kv (by rw[<-e];exact x4)
       simp only[St.put,Zq];rw[if_neg this]
      ·by_cases hj:j=i
       ·subst hj;rw[x4]at h5;simp only[Zd]at h5;subst h5;rw[y14 d (λj h6 _ h8=>by have:=hdn j h8;omega),hput,hother d (λj h6 _ h8=>by have:=hdn j h8;omega),hput]
       ·exact y15 j d' kv h4 h5
    ·simp at h
   ·simp at h
  ·simp at h
def slot0(S Sc:St)(d:Nat):St:={Sc with fr:=Sc.fr.set d (S.fr.getD d .junk)}
def Vka(P:Program)(ops:Array Oper)(n:Nat)(S:St):Option (List Prop×St×St):=
 match Vkq P (ops.toList.filterMap (·.dst)) 0 (ops.toList.take n) S,ops[n]?,ops[0]? with
 | some (c1,Sc),some o,some o0=>match o.guard,o.dst,o0.dst with
  | none,some dn,some d0=>match Vb6 P o Sc,Vb6 P o (slot0 S Sc d0)with
   | some r,some r0=>match Vb6 P o0 (r0.st.put (some dn) r0.v)with
    |some q=>match Vda P (ops.toList.map (·.dst)) (ops.toList.drop (n+1)) [] (r.st.put (some dn) r.v)with
     |some (c2,_,T)=>some (c1++(r.ok::r0.ok::q.ok::c2),T,(q.st.put (some d0) q.v))
     |none=>none
    |none=>none
   |_,_=>none
  |_,_,_=>none
 |_,_,_=>none
def pushMid(P:Program)(ops:Array Oper)(n:Nat)(S:St):Option St:=
 match Vkq P (ops.toList.filterMap (·.dst)) 0 (ops.toList.take n) S,ops[n]? with
 |some (_,Sc),some o=>(Vb6 P o Sc).map (λr=>r.st.put o.dst r.v)
 |_,_=>none
def pushOk(ops:Array Oper)(n:Nat):Bool:=Viv ops n n (Z1 ops.size false)&&decide ((ops.toList.filterMap (·.dst)).Nodup)&&decide (0<n)&&decide (n<ops.size)
theorem W_pushR{id:Nat}{ops:Array Oper}{S T T0:St}{cs:List Prop}(n:Nat)(hm:P.follows .mixedOrders=true)(hB:pushOk ops n=true)(h:Vka P ops n S=some (cs,T,T0))(hmid:pushMid P ops n S=some T0)(hc:All cs):W P (.region id ops true) (λe S1=>e=.normal/\S1=T) S:=by
 simp only[pushOk,Zc,decide_eq_true_eq]at hB;obtain⟨⟨⟨hB,hnd⟩,hn0⟩,hnlt⟩:=hB;obtain⟨ds,hds⟩:∃ ds,ops.toList.filterMap (·.dst)=ds:=⟨_,rfl⟩
 unfold Vka at h;unfold pushMid at hmid;rw[hds]at hnd h hmid
 split at h
 case h_2=>simp at h
 rename_i c1 Sc on o0 hh hon ho0;rw[hh,hon]at hmid;simp only at h hmid
 split at h
 case h_2=>simp at h
 rename_i dn d0 hgn hdn hd0
 split at h
 case h_2=>simp at h
 rename_i r r0 har har0
 split at h
 case h_2=>simp at h
 rename_i q haq
 split at h
 case h_2=>simp at h
 rename_i c2 ors2 T2 hrun;simp only[Zd,Zh]at h;obtain⟨rfl,rfl,hT0⟩:=h;rw[har,hdn]at hmid;simp only[Yb,Zd]at hmid
 have hTe:q.st.put (some d0) q.v=r.st.put (some dn) r.v:=by rw[hT0,hmid]
 obtain⟨hc1,hcr,hcr0,hcq,hc2⟩:=Vb7 hc;obtain⟨hlen,hbx,hgn2⟩:=Vpr _ _ _ _ _ hh
 have hat:=headL_at hnd _ _ _ _ _ hh hc1
 have hoth:=Vgp _ _ _ _ _ hh
 have htake:∀ k,k<n->(ops.toList.take n)[k]? =ops[k]? :=λk hk=>by simp[List.getElem?_take,hk]
 have hltl:(ops.toList.take n).length=n:=by simp;omega
 have hhead:∀ i,i<n->∀ o,ops[i]? =some o->∃(d:Nat)(Si:St)(p:Prop)(v:SV),o.guard=none/\o.dst=some d/\ds[i]? =some d/\d<S.fr.length/\still o.op=true/\Vch o.op=true/\opVs o Si=false/\Vb6 P o Si=some ⟨p,v,Si⟩/\p/\Sc.fr[d]? =some v/\Si.bx=S.bx/\Si.gn=S.gn/\
   (∀x∈o.op.operands,opdOk ds i o x=true)/\(∀t:Nat,(∀j,j<i->ds[j]? ≠some t)->Si.fr[t]? =S.fr[t]?)/\(∀j d',j<i->ds[j]? =some d'->Si.fr[d']? =Sc.fr[d']?):=by
  intro i hi o ho;obtain⟨d,Si,p,v,y1,y2,y3,y4,y5,y6,y7,y8,y9,y10,y11,y12,y13,y14,y15⟩:=hat i o ((htake i hi).trans ho);simp only[Z6]at y3 y13 y14 y15;exact⟨d,Si,p,v,y1,y2,y3,y4,y5,y6,y7,y8,y9,y10,y11,y12,y13,λt ht=>y14 t (λj _ hj=>ht j hj),λj d' hj=>y15 j d' (Nat.zero_le _) hj⟩
 have hdn':∀(i j t:Nat),ds[i]? =some t->ds[j]? =some t->i=j:=by
  intro i j t hi hj;obtain⟨g1,g2⟩:=Z3.1 hi;obtain⟨g3,g4⟩:=Z3.1 hj
  have hp:=List.pairwise_iff_getElem.1 hnd;rcases Nat.lt_trichotomy i j with hlt|he|hlt
  ·exact absurd (g2.trans g4.symm) (hp i j g1 g3 hlt)
  ·exact he
  ·exact absurd (g4.trans g2.symm) (hp j i g3 g1 hlt)
 intro G0 w0 a0 hr0;obtain⟨hstep0,hr0'⟩:=hr0.draw;apply wp_region_any hm
 -- the chain behind
 have tail:∀(L:Array Bool)(G:Gh)(w:World)(a:Act),Region.seqB .any ops (ops.size-(n+1)) (n+1) L=true->Rel G w (r.st.put (some dn) r.v) a->Step G0 w0 G w->(∀i,Fx i->G.ow (i,0)=G0.ow (i,0))->
   wpAny P .any ops (lift (λe S1=>e=.normal/\S1=T2) G0 w0) (ops.size-(n+1)) L a w:=by
  intro L G w a hs hr hst how
  have hl:(ops.toList.drop (n+1)).length=ops.size-(n+1):=by simp
  have:=wpAny_of_seq (md:=.any) (ops.toList.drop (n+1)) (n+1) L a w (λj=>by simp[List.getElem?_drop]) (by rw[hl];exact hs)
   (Vdq _ _ _ _ _ _ hrun hc2 G w a hr (lift (λe S1=>e=.normal/\S1=T2) G0 w0) (λG' a' w' q1 q2 q3=>⟨T2,G',⟨rfl,rfl⟩,hst.trans q1,q2,λi hi=>(q3 i hi).trans (how i hi)⟩))
  rwa[hl]at this
 have one:∀(o:Oper)(S':St)(p:Res)(i f:Nat)(L:Array Bool)(G:Gh)(w:World)(a:Act),ops[i]? =some o->o.guard=none->Vb6 P o S'=some p->p.ok->Rel G w S' a->Step G0 w0 G w->(∀i,Fx i->G.ow (i,0)=G0.ow (i,0))->
   (∀G' w' a',Rel G' w' (p.st.put o.dst p.v) a'->Step G0 w0 G' w'->(∀i,Fx i->G'.ow (i,0)=G0.ow (i,0))->wpAny P .any ops (lift (λe S1=>e=.normal/\S1=T2) G0 w0) f L a' w')->
   wpOp P ops (lift (λe S1=>e=.normal/\S1=T2) G0 w0) i (wpAny P .any ops (lift (λe S1=>e=.normal/\S1=T2) G0 w0) f L) a w:=by
  intro o S' p i f L G w a ho hg hast hp hr hst how hnext;obtain⟨nx,u,w',G',x1,x2,x3,x4,x5,x6⟩:=Vau hast hp G w a hr;unfold wpOp;simp only[ho];rw[if_pos (Vao hg a)];refine .inl ?_
  have fin:=hnext G' w' (a.put o.dst u) (x4.put o.dst x5) (hst.trans x3) (λi hi=>(x6 i hi).trans (how i hi));unfold Oper.wp;rw[x1];rcases x2 with rfl|⟨rfl,rfl⟩
  ·rw[Oper.upon_value];exact fin
  ·rw[Oper.upon_skip];exact fin
 have main:∀(f:Nat)(L:Array Bool)(G:Gh)(w:World)(a:Act)(S':St),Viv ops n f L=true->L.size=ops.size->S'.bx=S.bx->S'.gn=S.gn->S'.fr.length=S.fr.length->
   (∀j d,j<n->L.getD j false=true->ds[j]? =some d->S'.fr[d]? =Sc.fr[d]?)->(∀t:Nat,(∀j,j<n->L.getD j false=true->ds[j]? ≠some t)->S'.fr[t]? =S.fr[t]?)->Rel G w S' a->Step G0 w0 G w->(∀i,Fx i->G.ow (i,0)=G0.ow (i,0))->
   wpAny P .any ops (lift (λe S1=>e=.normal/\S1=T2) G0 w0) (f+(ops.size-n)) L a w:=by
  intro f
  induction f with
  | zero=>
   intro L G w a S' hb hsz h1 h2 h3 h4 h5 hr hst how;simp only[Viv,Zc]at hb;obtain⟨hall,hseq⟩:=hb
   have hall':∀ j,j<n->L.getD j false=true:=λj hj=>Ze.1 hall j (Zr.2 hj)
   have hSS:S'=Sc:=by
    have hfr:S'.fr=Sc.fr:=by
     apply List.ext_getElem?;intro t
     by_cases ht:∃ j,j<n/\ds[j]? =some t
     ·obtain⟨j,hj,hjt⟩:=ht;exact h4 j t hj (hall' j hj) hjt
     ·have ht':∀ j,j<n->ds[j]? ≠some t:=λj hj e=>ht ⟨j,hj,e⟩
      rw[h5 t (λj hj _=>ht' j hj),hoth t (λj _ hj=>ht' j kv)]
    obtain⟨f1,b1,g1⟩:=S';obtain⟨f2,b2,g2⟩:=Sc;simp only at hfr h1 h2 hbx hgn2;rw[hfr,h1,h2,hbx,hgn2]
   subst hSS
   have hl:(ops.toList.drop n).length=ops.size-n:=by simp
   have hdrop:ops.toList.drop n=on::ops.toList.drop (n+1):=by
    have hlt:n<ops.toList.length:=by simpa using hnlt
    rw[List.drop_eq_getElem_cons hlt]
    have:ops.toList[n]=on:=by
     have h9:ops[n]? =some ops[n]:=Zm hnlt;rw[hon]at h9;simp only[Zd]at h9;simpa using h9.symm
    rw[this]
   have hw:WO P ops (ops.toList.drop n) (λS1=>S1=T2) S':=by
    rw[hdrop];refine Vbv hgn (Vau har) hcr ?_;rw[hdn];intro more Q' G2 w2 a2 hr2 hq2;exact Vca _ _ _ _ _ _ hrun hc2 G2 w2 a2 hr2 Q' (λG3 a3 w3 q1 q2 q3=>hq2 T2 G3 a3 w3 rfl q1 q2 q3)
   have hw2:=hw [] (lift (λe S1=>e=.normal/\S1=T2) G0 w0) G w a hr (λS2 G2 a2 w2 q1 q2 q3 q4=>⟨S2,G2,⟨rfl,q1⟩,hst.trans q2,q3,λi hi=>(q4 i hi).trans (how i hi)⟩);rw[List.append_nil]at hw2;rw[Z6]
   have:=wpAny_of_seq (md:=.any) (ops.toList.drop n) n L a w (λj=>by simp[List.getElem?_drop]) (by rw[hl];exact hseq) hw2;rwa[hl]at this
  | succ f ih=>
   intro L G w a S' hb hsz h1 h2 h3 h4 h5 hr hst how;simp only[Viv,Zc,Zo,List.isEmpty_eq_false_iff]at hb;obtain⟨hne,hall⟩:=hb;rw[show f+1+(ops.size-n)=(f+(ops.size-n))+1 by omega];refine⟨λh0=>absurd h0 hne,λi hi=>?_⟩
   have hi2:=Ze.1 hall i hi;simp only[Zt,Zc,decide_eq_true_eq,Zo]at hi2;obtain⟨hun,o,ho,hdep⟩:=mem_ready.1 hi
   have hlisted:i<L.size:=by rw[hsz];exact(Z2.1 ho).1
   rcases hi2 with⟨hin,hbi⟩|⟨⟨⟨⟨⟨rfl,rfl⟩,hl0⟩,hlall⟩,hrdy⟩,hseq⟩
   ·obtain⟨d,Si,p,v,y1,y2,y3,y4,y5,y6,y7,y8,y9,y10,y11,y12,y13,y14,y15⟩:=hhead i hin o ho
    have hast:Vb6 P o S'=some ⟨p,v,S'⟩:=by
     obtain⟨f1,b1,g1⟩:=S';obtain⟨f2,b2,g2⟩:=Si;simp only at h1 h2 y11 y12;subst h1 h2 y11 y12
     have:=Vey (fr':=f1) y6 y7 (λx hx=>?_) y8
     ·rw[this];rfl
     ·have hok:=y13 x hx;cases x with
      | tmp t=>
       simp only[opdOk,Zt,Zo,List.any_eq_true,Zc,decide_eq_true_eq,beq_iff_eq]at hok;simp only[St.ev,Zx];congr 1;rcases hok with hok|⟨e,he,⟨hbe,hel⟩,het⟩
       ·have hnt:∀ j:Nat,ds[j]? ≠some t:=λj hj=>by
         have:=Ya hj;rw[List.contains_eq_mem]at hok;simp[this]at hok
        rw[y14 t (λj _=>hnt j),h5 t (λj _ _=>hnt j)]
       ·have hle:=hdep e (by simpa using he) hbe;rw[y15 e.on t hel het,h4 e.on t kv hle het]
      |_=>rfl
    refine one o S' _ i _ _ G w a ho y1 hast y9 hr hst how (λG' w' a' hr' hst' how'=>?_);rw[y2]at hr';refine ih _ G' w' a' (S'.put (some d) v) hbi (by simp[hsz]) h1 h2 (by simp[St.put,h3]) (λj d' hj hl hd'=>?_) (λt ht=>?_) hr' hst' how'
    ·simp only[St.put,Zq]
     by_cases hji:d=d'
     ·subst hji;rw[if_pos rfl,if_pos (by rw[h3];exact y4),y10]
     ·rw[if_neg hji]
      have hij:i≠j:=λe=>hji (by rw[e]at y3;rw[y3]at hd';exact Option.some.inj hd')
      refine h4 j d' hj ?_ hd';rw[<-hl];simp only[Zb];rw[Zf hij]
    ·have hdt:d≠t:=λe=>ht i hin (by simp[Zb,hlisted]) (by rw[<-e];exact y3)
     simp only[St.put,Zq];rw[if_neg hdt];refine h5 t (λj hj hl=>ht j hj ?_);simp only[Zb]at hl ⊢
     by_cases hij:i=j
     ·subst hij;simp[hlisted]
     ·rw[Zf hij];exact hl
   ·obtain rfl:on=o:=Option.some.inj (hon.symm.trans ho);obtain⟨d,Si,p,v,y1,y2,y3,y4,y5,y6,y7,y8,y9,y10,y11,y12,y13,y14,y15⟩:=hhead 0 hn0 o0 ho0;rw[hd0]at y2;simp only[Zd]at y2;subst y2
    have hall':∀ j,j<i->j≠0->L.getD j false=true:=λj hj h0=>by
     have:=Ze.1 hlall j (Zr.2 hj);simp only[Zt,decide_eq_true_eq]at this;exact this.resolve_left h0
    have hSS:S'=slot0 S Sc d0:=by
     have hfr:S'.fr=Sc.fr.set d0 (S.fr.getD d0 .junk):=by
      apply List.ext_getElem?;intro t;rw[Zq]
      by_cases htd:d0=t
      ·subst htd;rw[if_pos rfl,if_pos kv,h5 d0 (λj hj hl hjd=>?_)]
       ·simp[y4]
       ·have:=hdn' j 0 d0 hjd y3;subst this;rw[hl0]at hl;cases hl
      ·rw[if_neg htd]
       by_cases ht:∃ j,j<i/\ds[j]? =some t
       ·obtain⟨j,hj,hjt⟩:=ht;refine h4 j t hj (hall' j hj (λh0=>?_)) hjt;subst h0;rw[y3]at hjt;exact htd (Option.some.inj hjt)
       ·have ht':∀ j,j<i->ds[j]? ≠some t:=λj hj e=>ht ⟨j,hj,e⟩
        rw[h5 t (λj hj _=>ht' j hj),hoth t (λj _ hj=>ht' j kv)]
     obtain⟨f1,b1,g1⟩:=S';obtain⟨f2,b2,g2⟩:=Sc;simp only at hfr h1 h2 hbx hgn2;simp only[slot0];rw[hfr,h1,h2,hbx,hgn2]
    subst hSS;refine one on _ _ i _ _ G w a hon hgn har0 hcr0 hr hst how (λG' w' a' hr' hst' how'=>?_);rw[hdn]at hr'
    have hsz1:0+(ops.size-i)=(ops.size-(i+1))+1:=by omega
    rw[hsz1];refine⟨λh0=>(by rw[hrdy]at h0;cases h0),λk hk=>?_⟩;rw[hrdy]at hk;obtain rfl:k=0:=by simpa using hk
    refine one o0 _ _ 0 _ _ G' w' a' ho0 y1 haq hcq hr' hst' how' (λG2 w2 a2 hr2 hst2 how2=>?_);rw[hd0,hTe]at hr2;exact tail _ G2 w2 a2 hseq hr2 hst2 how2
 have:=main n (Z1 ops.size false) G0 _ a0 S hB ku rfl rfl rfl (λj d _ hl=>by rw[getD_replicate_false]at hl;cases hl) (λ_ _=>rfl) hr0' hstep0 (λ_ _=>rfl);rwa[show n+(ops.size-n)=ops.size by omega]at this
end Go.Eng
namespace Go.Eng
open Go
section
variable {P:Program} {α:Type}
def KQ(P:Program)(fn:Func)(enc:α->SV)(bxf:α->List (Nat×ABox))(gnf:α->List (Key×Nat))(M:α):Exit->St->Prop:=Ends P fn (enc M) (bxf M) (gnf M)
theorem ENk{fn:Func}{enc:α->SV}{bxf:α->List (Nat×ABox)}{gnf:α->List (Key×Nat)}{M:α}{X:Cf}(h:Vls P fn X=some (enc M))(hb:(bxf M).map (λp=>(stOf X).bx.lookup p.1)=(bxf M).map (λp=>some p.2))(hg:(gnf M).map (λp=>(stOf X).gen p.1)=(gnf M).map (·.2)):Nx P (KQ P fn enc bxf gnf) M X:=by
 have hb':∀ p∈bxf M,(stOf X).bx.lookup p.1=some p.2:=λp hp=>List.map_inj_left.1 hb p hp
 have hg':∀ p∈gnf M,(stOf X).gen p.1=p.2:=λp hp=>List.map_inj_left.1 hg p hp
 unfold Vls at h
 split at h
 ·exact⟨ends (.inl rfl) h rfl hb' hg'⟩
 ·exact⟨ends (.inr rfl) h rfl hb' hg'⟩
 ·simp at h
def ABox.toK:ABox->ABox
 | .vec e sz l=>.vck e sz l
 |x=>x
theorem toK_rep{G:Gh}{w:World}{id:Nat}{x:ABox}(h:RepB G w id x):RepB G w id x.toK:=by cases x <;>exact h
def kept(bx:List (Nat×ABox)):List (Nat×ABox):=bx.map (λp=>(p.1,p.2.toK))
theorem BEGv(enc:α->SV)(bxf:α->List (Nat×ABox))(gnf:α->List (Key×Nat))(M:α){f:FuncId}{fn:Func}{args:List SV}{bx:List (Nat×ABox)}{gn:List (Key×Nat)}(hf:P.funcs[f]? =some fn)(hok:(Vkd fn args bx gn (enc M) (bxf M) (gnf M)&&(bxf M).all (λp=>decide (p.1<2000)))=true)
  (h:Nx P (KQ P fn enc bxf gnf) M (start (Vbc fn) ⟨args++List.replicate (fn.ntmps-args.length) .junk,bx,gn⟩)):Va2 P f args bx gn (enc M) (kept (bxf M)) (gnf M):=by
 rw[Zc]at hok;obtain⟨hok,hlo⟩:=hok;simp only[Vkd,Zc,decide_eq_true_eq,Zo,beq_iff_eq]at hok;obtain⟨⟨⟨⟨⟨⟨⟨⟨⟨⟨⟨h1,h2⟩,h3⟩,h4⟩,h5⟩,h6⟩,h7⟩,h8⟩,h9⟩,h10⟩,h11⟩,h12⟩:=hok;obtain⟨c,hb⟩:=Z4.1 h1
 have e:Vbc fn=c:=by simp[Vbc,hb]
 have hk1:(kept (bxf M)).map (·.1)=(bxf M).map (·.1):=by simp[kept]
 refine Vbl (bx1:=bxf M) hf hb h2 rfl h3 (λp hp=>?_) (λp hp=>?_) (λs hs=>Vcs (Ze.1 h6 s hs)) (Vg8 h7) (Vcs h8) (Vg8 h9) (hk1.trans h10) h11 ?_ (λp hp=>?_) (λp hp=>?_)
 ·have:=Ze.1 h4 p hp;simpa using this
 ·have:=Ze.1 h5 p hp;simpa using this
 ·rw[<-e];refine Vfv h.x (λe S hE=>?_);cases e with
  |normal=>obtain⟨⟨keep,h1⟩,h2,h3⟩:=hE;exact⟨⟨keep,_,h1,.inl rfl⟩,h2,h3⟩
  |ret=>obtain⟨⟨keep,h1⟩,h2,h3⟩:=hE;exact⟨⟨keep,_,h1,.inl rfl⟩,h2,h3⟩
  |_=>exact hE.elim
 ·simp only[kept,Zy]at hp;obtain⟨q,hq,rfl⟩:=hp
  have:=Ze.1 hlo q hq;exact .inl (by simpa using this)
 ·simp only[kept,Zy]at hp;obtain⟨q,hq,rfl⟩:=hp;exact⟨q.2,hq,λ_ _ h=>toK_rep h⟩
theorem cut_weak{S:St}{b e sz:Nat}{l:List AV}(k:Nat)(hb:S.bx.lookup b=some (.vec e sz l)):Weak S (S.setBox b (.vec e sz (l.take k))):=by
 intro G w a hr;refine⟨hr.wf,hr.size,hr.fr,λp hp=>?_,hr.gn,hr.defers⟩;simp only[St.setBox,Zy]at hp;obtain⟨q,hq,rfl⟩:=hp
 split
 ·rename_i hqb;rw[hqb]
  have h:=hr.bx _ (Vad hb);simp only at h ⊢;rcases h with⟨h1,h2⟩|⟨blk,arr,es,h0,h1,h2,h3,h4,h5,h6,⟨rest,h7⟩,h8⟩
  ·exact .inl ⟨by rw[h1];simp,h2⟩
  ·refine .inr ⟨blk,arr,es.take k,h0,h1,h2,h3,h4,h5.take k,λx hx=>h6 x (List.mem_of_mem_take hx),⟨Va1 (es.drop k)++rest,?_⟩,λc hc=>h8 c ?_⟩
   ·rw[h7, <-Zz];congr 1;rw[Va1,Va1,Va1, <-List.flatMap_append,List.take_append_drop]
   ·simp only[Va1,List.mem_flatMap]at hc ⊢;obtain⟨x,hx,h⟩:=hc;exact⟨x,List.mem_of_mem_take hx,h⟩
 ·exact hr.bx q hq
theorem CUTV{K:α->Exit->St->Prop}{M:α}{X:Cf}(b k:Nat){e sz:Nat}{l l':List AV}(h:vbox (stOf X) b=some (e,sz,l))(hl:l.take k=l')(hn:Nx P K M (reSt X ((stOf X).setBox b (.vec e sz l')))):Nx P K M X:=by
 have hb:(stOf X).bx.lookup b=some (.vec e sz l):=by
  unfold vbox at h;split at h
  ·rename_i h2;simp only[Zd,Zh]at h;obtain⟨rfl,rfl,rfl⟩:=h;exact h2
  ·cases h
 subst hl;exact Voc (λG w a hr=>⟨G,Step.refl G w,cut_weak k hb G w a hr,λ_ _=>rfl⟩) hn
theorem Vks{S:St}{c k b e sz:Nat}(hs:Vfs S c k=.nil)(hb:b<1000\/2000<=b)(hn:S.names b=false):Ghost S ((Vcr S c k (.vs b 0)).addBox b (.vec e sz [])):=by
 intro G w a hr
 let G':Gh:={G with ow:=λκ=>if κ=(b,0)then none else G.ow κ}
 have how:∀ κ c,G'.ow κ=some c->G.ow κ=some c:=by
  intro κ c h;simp only[G']at h
  split at h
  ·cases h
  ·exact h
 have hkp:∀ κ,κ≠(b,0)->Keep G w G' w κ:=λκ hκ=>⟨by simp only[G'];rw[if_neg hκ],λ_ _=>⟨rfl,rfl⟩⟩
 have hstep:Step G w G' w:=⟨⟨λ_=>Zg _,Imm.refl _ _,Zg _,rfl,rfl,rfl,λ_ _=>rfl,λ_=>Zg _,λκ h0 _=>hkp κ (by intro e;rw[e]at h0;simp at h0)⟩,λ_ _ _=>⟨rfl,rfl⟩,λκ c h=>.inl ⟨κ,how κ c h⟩⟩
 have hwf:Wf G' w:=⟨λκ κ' c h h'=>hr.wf.inj κ κ' c (how κ c h) (how κ' c h'),λκ c h=>hr.wf.lt κ c (how κ c h),hr.wf.zero⟩
 have hr1:Rel G' w S a:=hr.but hn hstep.toExt hwf hkp rfl
 have hbx:RepB G' w b (.vec e sz []):=Or.inl ⟨rfl,by simp[G']⟩
 have hput:Rel G' w (Vcr S c k (.vs b 0)) a:=by
  unfold Vcr
  split
  ·rename_i ty l hl;simp only[Vfs,hl]at hs;refine⟨hr1.wf,hr1.size,hr1.fr,λp hp=>?_,hr1.gn,hr1.defers⟩;simp only[St.setBox,Zy]at hp;obtain⟨q,hq,rfl⟩:=hp
   split
   ·rename_i hqb
    have hb:=hr1.bx _ (Vad hl);simp only at hb ⊢;rw[hqb];obtain⟨blk,arr,g1,g2,g3,g4,g5⟩:=hb;refine⟨blk,arr,g1,g2,g3,?_,g5⟩
    have key:∀(l:List SV)(k:Nat)(us:List Value),l.getD k .junk=.nil->RepSs G' w l us->RepSs G' w (l.set k (.vs b 0)) us:=by
     intro l
     induction l with
     |nil=>intro k us _ hu;exact hu
     | cons s l ih=>
      intro k us hw hu;obtain⟨u,us',e,h2,h3⟩:=hu;cases k with
      |zero=>
       simp only[List.getD_cons_zero]at hw;subst hw;exact⟨u,us',e,Or.inl ⟨rfl,h2,by simp[G']⟩,h3⟩
      |succ k=>exact⟨u,us',e,h2,ih k us' (by simpa using hw) h3⟩
    exact key l k _ hs g4
   ·exact hr1.bx q hq
  ·exact hr1
 exact⟨G',hstep,hput.add hbx,λi hi=>by simp only[G'];rw[if_neg (by intro h;simp at h;omega)]⟩
theorem TELLB{K:α->Exit->St->Prop}{M:α}{X:Cf}(c k b e sz:Nat)(h:(Vfs (stOf X) c k,decide (b<1000)||decide (2000<=b),(stOf X).names b)=(.nil,true,false))(hn:Nx P K M (reSt X ((Vcr (stOf X) c k (.vs b 0)).addBox b (.vec e sz [])))):Nx P K M X:=by
 simp only[Zh,Zt,decide_eq_true_eq]at h;exact Voc (Vks h.1 h.2.1 h.2.2) hn
def Vj7(ops:Array Oper)(k:Nat):List Nat:=match ops[k]? with
 |some o=>(o.after.toList.filter (Region.binds .any)).map (·.on)
 |none=>[]
theorem Vh9{ops:Array Oper}{k:Nat}{o:Oper}(ho:ops[k]? =some o){d:Nat}:d∈Vj7 ops k ↔ ∃e∈o.after,Region.binds .any e=true/\e.on=d:=by
 simp only[Vj7,ho,Zy,List.mem_filter,Array.mem_toList_iff];constructor
 ·rintro⟨e,⟨h1,h2⟩,h3⟩;exact⟨e,h1,h2,h3⟩
 ·rintro⟨e,h1,h2,h3⟩;exact⟨e,⟨h1,h2⟩,h3⟩
def clos(ops:Array Oper):Nat->List Nat->List Nat
 |0,c=>c
 |k+1,c=>clos ops k (if c.contains k then c++Vj7 ops k else c)
theorem clos_sub{ops:Array Oper}{L:Nat->Bool}(hd:∀ i,L i=true->∀ d∈Vj7 ops i,L d=true):∀(k:Nat)(c:List Nat),(∀j∈c,L j=true)->∀ j∈clos ops k c,L j=true
 |0,c,h=>h
 | k+1,c,h=>by
  refine clos_sub hd k _ (λj hj=>?_)
  split at hj
  ·rename_i hk;rcases Z5.1 hj with hj|hj
   ·exact h j hj
   ·exact hd k (h k (by simpa using hk)) j hj
  ·exact h j hj
def Vnk(m:Nat)(p:Nat->Bool):Array Bool:=((Zj m).map p).toArray
theorem marks_get(m:Nat)(p:Nat->Bool)(i:Nat):(Vnk m p).getD i false=(decide (i<m)&&p i):=by
 simp only[Vnk,Zb];rw[Z7,List.getElem?_map]
 by_cases h:i<m
 ·rw[List.getElem?_range h];simp[h]
 ·rw[List.getElem?_eq_none (by simpa using h)];simp[h]
theorem marks_eq{m:Nat}{L:Array Bool}(p:Nat->Bool)(hs:L.size=m)(hp:∀ i,i<m->L.getD i false=p i):L=Vnk m p:=by
 apply Array.ext
 ·simp[Vnk,hs]
 ·intro i h1 h2
  have h3:=hp i kv
  have h4:=marks_get m p i;rw[Zb,Zm h1]at h3;rw[Zb,Zm h2]at h4;simp only[Z8]at h3 h4;rw[h3,h4];simp;omega
def headsP(ops:Array Oper)(n:Nat):Bool:=
 decide (n<ops.size)&&(Zj n).all (λi=>(Vj7 ops i).all (λd=>decide (d<i)))&&
 (Zj ops.size).all (λi=>decide (i<=n)||(Vj7 ops i).any (λd=>decide (n<=d)))&&
 (Zj n).all (λj=>decide (j=0)||(clos ops n (Vj7 ops n)).contains j)&&
 Region.seqB .any ops (ops.size-n) n (Vnk ops.size (λi=>decide (i<n)))&&
 ((clos ops n (Vj7 ops n)).contains 0||(decide (Region.ready .any ops ((Vnk ops.size (fun i=>decide (i<n)&&decide (i≠0))).setIfInBounds n true)=[0])&&
  Region.seqB .any ops (ops.size-(n+1)) (n+1) (((Vnk ops.size (λi=>decide (i<n)&&decide (i≠0))).setIfInBounds n true).setIfInBounds 0 true)))
theorem Vhd{L:Array Bool}{i:Nat}(h:i<L.size):L.getD i true=L.getD i false:=by
 simp[Array.getD,h]
theorem least{p:Nat->Bool}(i:Nat)(h:p i=true):∃ k,p k=true/\k<=i/\∀ j,j<k->p j=false:=by
 induction i using Nat.strongRecOn with
 | _ i ih=>
  by_cases hx:∃ j,j<i/\p j=true
  ·obtain⟨j,hj,hp⟩:=hx;obtain⟨k,k1,k2,k3⟩:=ih j hj hp;exact⟨k,k1,by omega,k3⟩
  ·refine⟨i,h,Zg i,λj hj=>?_⟩;cases hb:p j with
   |false=>rfl
   |true=>exact absurd ⟨j,hj,hb⟩ hx
theorem Vhi{p:Nat->Bool}{n f:Nat}(h:(Zj n).countP p=f+1):∃ i,i<n/\p i=true:=by
 have:0<(Zj n).countP p:=by omega
 obtain⟨i,hi,hp⟩:=List.countP_pos_iff.1 this;exact⟨i,Zr.1 hi,hp⟩
theorem Vij{n i:Nat}{p q:Nat->Bool}(hi:i<n)(hpi:p i=true)(hqi:q i=false)(ho:∀ j,j≠i->q j=p j){f:Nat}(h:(Zj n).countP p=f+1):(Zj n).countP q=f:=by
 induction n generalizing f with
 |zero=>omega
 | succ n ih=>
  rw[List.range_succ,List.countP_append]at h ⊢;simp only[List.countP_cons,List.countP_nil,Z6]at h ⊢
  by_cases e:i=n
  ·subst e
   have hc:(Zj i).countP q=(Zj i).countP p:=by
    apply List.countP_congr;intro j hj
    have:=Zr.1 hj;rw[ho j kv]
   rw[hpi]at h;rw[hqi,hc];simp at h ⊢;omega
  ·rw[ho n (λh=>e h.symm)];cases hpn:p n with
   |true=>
    rw[hpn]at h;simp at h ⊢
    have hpos:0<(Zj n).countP p:=List.countP_pos_iff.2 ⟨i,Zr.2 kv,hpi⟩;obtain⟨f',hf'⟩:∃ f',(Zj n).countP p=f'+1:=⟨(Zj n).countP p-1,by omega⟩
    have:=ih kv hf';omega
   |false=>
    rw[hpn]at h;simp at h ⊢;exact ih kv h
theorem headsC_of{ops:Array Oper}{n:Nat}(h:headsP ops n=true):∀(f:Nat)(L:Array Bool),L.size=ops.size->(∀i,n<=i->L.getD i false=false)->(∀i,L.getD i false=true->∀ d∈Vj7 ops i,L.getD d false=true)->
  (Zj n).countP (λi=> !L.getD i false)=f->Viv ops n f L=true:=by
 simp only[headsP,Zc,decide_eq_true_eq,Ze,Zr,Zt,List.any_eq_true,List.contains_eq_mem]at h;obtain⟨⟨⟨⟨⟨hn,hlow⟩,hhi⟩,hcl⟩,hseq⟩,hlate⟩:=h;intro f
 induction f with
 | zero=>
  intro L hs hge hdc hc
  have hall:∀ i,i<n->L.getD i false=true:=λi hi=>by
   rw[List.countP_eq_zero]at hc
   have:=hc i (Zr.2 hi);simpa using this
  have hL:L=Vnk ops.size (λi=>decide (i<n)):=marks_eq _ hs (λi hi=>by
   by_cases hin:i<n
   ·rw[hall i hin];simp[hin]
   ·rw[hge i kv];simp[hin])
  simp only[Viv,Zc,Ze,Zr];exact⟨hall,by rw[hL];exact hseq⟩
 | succ f ih=>
  intro L hs hge hdc hc;simp only[Viv,Zc,Zo,List.isEmpty_eq_false_iff,Ze];constructor
  ·-- the least one that is not listed is ready
   have hex:=Vhi hc;obtain⟨i,hi,hmin⟩:∃ i,(i<n/\L.getD i false=false)/\∀ j,j<i->L.getD j false=true:=by
    obtain⟨i,h1,h2⟩:=hex;obtain⟨k,k1,k2,k3⟩:=least (p:=λj=> !L.getD j false) i h2;exact⟨k,⟨by omega,by simpa using k1⟩,λj hj=>by simpa using k3 j hj⟩
   intro hemp
   have hio:i<ops.size:=by omega
   have:i∈Region.ready .any ops L:=by
    rw[mem_ready];refine⟨by rw[Vhd kv];exact hi.2,ops[i],Zm hio,λe he hb=>hmin _ ?_⟩;exact hlow i hi.1 _ ((Vh9 (Zm hio)).2 ⟨e,he,hb,rfl⟩)
   rw[hemp]at this;cases this
  ·intro i hi;obtain⟨hun,o,ho,hdep⟩:=mem_ready.1 hi
   have hio:i<ops.size:=(Z2.1 ho).1;rw[Vhd kv]at hun
   have hdep':∀ d∈Vj7 ops i,L.getD d false=true:=λd hd=>by
    obtain⟨e,he,hb,rfl⟩:=(Vh9 ho).1 hd;exact hdep e he hb
   by_cases hin:i<n
   ·simp only[Zt,Zc,decide_eq_true_eq];refine .inl ⟨hin,ih _ (by simpa using hs) (λj hj=>?_) (λj hj d hd=>?_) ?_⟩
    ·rw[Zb,Zf kv, <-Zb];exact hge j hj
    ·have hset:∀ k,k≠i->(L.setIfInBounds i true).getD k false=L.getD k false:=λk hk=>by
      rw[Zb,Zf (λe=>hk e.symm), <-Zb]
     have hself:(L.setIfInBounds i true).getD i false=true:=by
      rw[Zb,Zk kv];rfl
     by_cases hji:j=i
     ·subst hji
      have:=hdep' d hd
      by_cases hdi:d=j
      ·rw[hdi];exact hself
      ·rw[hset d hdi];exact this
     ·rw[hset j hji]at hj
      have:=hdc j hj d hd
      by_cases hdi:d=i
      ·rw[hdi];exact hself
      ·rw[hset d hdi];exact this
    ·refine Vij hin (by simpa using hun) ?_ (λj hj=>?_) hc
     ·rw[Zb,Zk kv];rfl
     ·rw[Zb,Zf (λe=>hj e.symm), <-Zb]
   ·have hi0:i=n:=by
     rcases hhi i hio with h|⟨d,hd,hnd⟩
     ·omega
     ·have:=hdep' d hd;rw[hge d hnd]at this;cases this
    subst hi0
    have hC:=clos_sub hdc i _ hdep'
    have hrest:∀ j,j<i->j≠0->L.getD j false=true:=λj hj h0=>by
     rcases hcl j hj with h|h
     ·exact absurd h h0
     ·exact hC j h
    have hex:=Vhi hc;obtain⟨k,hk,hk2⟩:=hex
    have hk0:k=0:=by
     rcases Nat.eq_zero_or_pos k with h|h
     ·exact h
     ·rw[hrest k hk kv]at hk2;cases hk2
    subst hk0
    have h0f:L.getD 0 false=false:=by simpa using hk2
    have hf0:f=0:=by
     have:(Zj i).countP (λj=> !(L.setIfInBounds 0 true).getD j false)=f:=by
      refine Vij hk hk2 ?_ (λj hj=>?_) hc
      ·rw[Zb,Zk kv];rfl
      ·rw[Zb,Zf (λe=>hj e.symm), <-Zb]
     rw[<-this,List.countP_eq_zero];intro j hj
     have hj':=Zr.1 hj
     by_cases h0:j=0
     ·subst h0;rw[Zb,Zk kv];simp
     ·rw[Zb,Zf (λe=>h0 e.symm), <-Zb,hrest j hj' h0];simp
    have hL:L=Vnk ops.size (λj=>decide (j<i)&&decide (j≠0)):=marks_eq _ hs (λj hj=>by
     by_cases hji:j<i
     ·by_cases h0:j=0
      ·subst h0;rw[h0f];simp
      ·rw[hrest j hji h0];simp[hji,h0]
     ·rw[hge j kv];simp[hji])
    rcases hlate with h|⟨hr,hsq⟩
    ·have:=hC 0 h;rw[h0f]at this;cases this
    ·simp only[Zt,Zc,decide_eq_true_eq,Zo,Ze,Zr];refine .inr ⟨⟨⟨⟨⟨trivial,hf0⟩,h0f⟩,λj hj=>?_⟩,by rw[hL];exact hr⟩,by rw[hL];exact hsq⟩
     by_cases h0:j=0
     ·exact .inl h0
     ·exact .inr (hrest j hj h0)
def pushOk'(ops:Array Oper)(n:Nat):Bool:=headsP ops n&&decide ((ops.toList.filterMap (·.dst)).Nodup)&&decide (0<n)
theorem pushOk_of{ops:Array Oper}{n:Nat}(h:pushOk' ops n=true):pushOk ops n=true:=by
 simp only[pushOk',Zc,decide_eq_true_eq]at h;obtain⟨⟨h1,h2⟩,h3⟩:=h
 have hn:n<ops.size:=by
  simp only[headsP,Zc,decide_eq_true_eq]at h1;exact h1.1.1.1.1.1
 have hz:∀ i,(Z1 ops.size false).getD i false=false:=λi=>by
  rw[Zb,Array.getElem?_replicate]
  split <;>rfl
 simp only[pushOk,Zc,decide_eq_true_eq];refine⟨⟨⟨headsC_of h1 n _ ku (λi _=>hz i) (λi hi=>by rw[hz i]at hi;cases hi) ?_,h2⟩,h3⟩,hn⟩;rw[List.countP_eq_length.2 (λi _=>by rw[hz i];rfl),List.length_range]
theorem Vgt{id:Nat}{ops:Array Oper}{S:St}(n:Nat)(hm:P.follows .mixedOrders=true)(hB:pushOk' ops n=true)(n0:Nat)(sl:List (Nat×SV))(bx:List (Nat×ABox))(gn:List (Key×Nat)){cs:List Prop}(hc:All cs)
  (h:seenO ((Vka P ops n S).map (λq=>(q.1,[],q.2.1))) (Viu sl) (Vqd bx)=some (cs,[],n0,Vir sl,Vqc bx,gn)) (hmid:(Vka P ops n S).map (λq=>q.2.2)=pushMid P ops n S):
  W P (.region id ops true) (λe S1=>e=.normal/\Weak S1 (sx n0 sl bx gn)) S:=by
 unfold seenO at h
 split at h
 ·rename_i cs' o S1 hr;simp only[Zd,Zh]at h;obtain⟨rfl,rfl,h4⟩:=h;cases hp:Vka P ops n S with
  |none=>rw[hp]at hr;cases hr
  |some q=>
   obtain⟨c,T,T0⟩:=q;rw[hp]at hr hmid;simp only[Yb,Zd,Zh,true_and]at hr;obtain⟨rfl,rfl⟩:=hr;refine Vfv (W_pushR n hm (pushOk_of hB) hp hmid.symm hc) ?_;rintro e S1 ⟨rfl,rfl⟩;exact⟨rfl,Vfx (n:=n0) (l:=sl) (bx:=bx) (gn:=gn) h4⟩
 ·simp at h
end
end Go.Eng
namespace Go.Proofs.YthbpjmogdonlkaaGreatDoor
open Go Go.Eng
abbrev Ops:=Nat->List Int
def opB(O:Ops)(i:Nat):Nat×ABox:=(2010+i,.vec 3 1 ((O i).map vI))
def stC(ps:List DPiece)(n:Nat)(O:Ops)(m:Nat):ABox:=.cells 227 ([jL (ps.map Vb4),.vs 2001 n]++((Zj 18).map (λi=>.vs (2010+i) (O i).length)++[.vs 2002 m]))
def emB(els:List DEm):ABox:=.vec 230 15 (els.map aEm)
def stB(ps:List DPiece)(els:List DEm)(O:Ops)(prs:List AV):List (Nat×ABox):=[(1000,stC ps els.length O prs.length),(2001,emB els),(2002,.vec 201 3 prs)]++(Zj 18).map (opB O)
def setE(els:List DEm)(k:Nat)(f:DEm->DEm):List DEm:=els.set k (f (el els k))
def setN(els:List DEm)(k:Nat)(v:Int):List DEm:=setE els k (λe=>{e with fnext:=v})
def setP(els:List DEm)(k:Nat)(v:Int):List DEm:=setE els k (λe=>{e with fbefore:=v})
def setL(els:List DEm)(k:Nat)(v:Int):List DEm:=setE els k (λe=>{e with fleft:=v})
def insE(els:List DEm)(e:DEm)(at':Int):DEm:={e with fbefore:=(el els at'.toNat).fbefore,fnext:=at'}
def insM(els:List DEm)(e:DEm)(at':Int):List DEm:=setP (setN (els++[insE els e at']) (el els at'.toNat).fbefore.toNat els.length) at'.toNat els.length
def remM(els:List DEm)(k:Int):List DEm:=setP (setN els (el els k.toNat).fbefore.toNat (el els k.toNat).fnext) (el els k.toNat).fnext.toNat (el els k.toNat).fbefore
theorem Vc7(els:List DEm)(k:Nat)(f:DEm->DEm):(setE els k f).length=els.length:=by simp[setE]
theorem Vhb(els:List DEm)(e:DEm)(a:Int):(insM els e a).length=els.length+1:=by simp[insM,setP,setN,Vc7]
theorem remM_len(els:List DEm)(k:Int):(remM els k).length=els.length:=by simp[remM,setP,setN,Vc7]
theorem uniE(e:DEm):Uni 15 [aEm e]:=by
 intro y hy;simp only[Zp,Zl,or_false]at hy;subst hy;exact⟨rfl,rfl⟩
theorem set_emF(els:List DEm)(k off:Nat)(v:AV)(f:DEm->DEm)(hk:k<els.length)(hf:∀ e,(aEm e).upd off v=aEm (f e)):(els.map aEm).set k (((els.map aEm).getD k (.val undef)).upd off v)=(setE els k f).map aEm:=by
 unfold setE;rw[List.map_set];congr 1
 have e:el els k=els[k]:=by simp[el,hk]
 rw[Zx,List.getElem?_map,Zw hk,e,Yb,Z8,hf]
theorem set_emN(els:List DEm)(k:Nat)(v:Int)(hk:k<els.length):(els.map aEm).set k (((els.map aEm).getD k (.val undef)).upd 14 (vI v))=(setN els k v).map aEm:=set_emF els k 14 _ _ hk (λ_=>rfl)
theorem set_emP(els:List DEm)(k:Nat)(v:Int)(hk:k<els.length):(els.map aEm).set k (((els.map aEm).getD k (.val undef)).upd 13 (vI v))=(setP els k v).map aEm:=set_emF els k 13 _ _ hk (λ_=>rfl)
theorem set_emL(els:List DEm)(k:Nat)(v:Int)(hk:k<els.length):(els.map aEm).set k (((els.map aEm).getD k (.val undef)).upd 12 (vI v))=(setL els k v).map aEm:=set_emF els k 12 _ _ hk (λ_=>rfl)
theorem Vok(els:List DEm)(f:Int)(off:Nat)(v:Int)(ho:off<15)(hf:0<=f/\f<els.length):0<=f/\f<(((els.map aEm).length:Nat):Int)/\off+1<=((els.map aEm).getD f.toNat (.val undef)).cells.length/\((els.map aEm).getD f.toNat (.val undef)).isTup=false/\(vI v).isTup=false/\(vI v).cells.length=1/\0<1:=by
 have hk:f.toNat<els.length:=by omega
 have e:(els.map aEm).getD f.toNat (.val undef)=aEm els[f.toNat]:=by
  rw[Zx,List.getElem?_map,Zw hk];rfl
 rw[e];exact⟨hf.1,by simpa using hf.2,ho,rfl,rfl,rfl,by decide⟩
def Ix(els:List DEm)(i:Int):Prop:=0<=i/\i<els.length
def inS(ps:List DPiece)(els:List DEm)(O:Ops)(prs:List AV)(e:DEm)(at':Int):St:=sx 52 [(0,.ptr 1000 0),(2,jI at'),(4,.ptr 4 0),(7,jI ((els.length:Nat):Int))] ((4,.cells 230 (sEm (insE els e at')))::stB ps els O prs) []
def inT(ps:List DPiece)(els:List DEm)(O:Ops)(prs:List AV)(e:DEm)(at':Int):St:=sx 52 [(0,.ptr 1000 0),(2,jI at'),(4,.ptr 4 0),(7,jI ((els.length:Nat):Int))] ([(1000,stC ps (els.length+1) O prs.length),(2001,emB (els++[insE els e at'])),(4,.cells 230 (sEm (insE els e at'))),(2002,.vec 201 3 prs)]++(Zj 18).map (opB O)) []
def cBndE(n:Nat)(l:List AV)(x:AV):Prop:=n<=l.length/\Uni 15 [x]/\(n+([x]:List AV).length)*232<=140737488355328
theorem in3(ps:List DPiece)(els:List DEm)(O:Ops)(prs:List AV)(e:DEm)(at':Int)(hn:els.length<=274877906944):W Tryz.prog (.region 3 (Va7 3 Tryz.f199) true) (λx S1=>x=.normal/\Weak S1 (inT ps els O prs e at')) (inS ps els O prs e at'):=by
 have hC:cBndE els.length (els.map aEm) (aEm (insE els e at')):=⟨by simp,uniE _,by simp;omega⟩
 have hu:=uniE (insE els e at')
 have h:=Vgt (P:=Tryz.prog) (id:=3) (ops:=Va7 3 Tryz.f199) (S:=inS ps els O prs e at') (cs:=[True,True,True,True,True,True,Uni 15 [aEm (insE els e at')],cBndE els.length (els.map aEm) (aEm (insE els e at')),cBndE els.length (els.map aEm) (aEm (insE els e at')),True,True,True,True]) 7 kx kx 52 [(0,.ptr 1000 0),(2,jI at'),(4,.ptr 4 0),(7,jI ((els.length:Nat):Int))] ([(1000,stC ps (els.length+1) O prs.length),(2001,.vec 230 15 ((els.map aEm).take els.length++[aEm (insE els e at')])),(4,.cells 230 (sEm (insE els e at'))),(2002,.vec 201 3 prs)]++(Zj 18).map (opB O)) [] ⟨trivial,trivial,trivial,trivial,trivial,trivial,hu,hC,hC,trivial,trivial,trivial,trivial,trivial⟩ kx kx;rw[show(els.map aEm).take els.length++[aEm (insE els e at')]=(els++[insE els e at']).map aEm by simp[List.take_of_length_le]]at h;exact h
theorem ins_to(ps:List DPiece)(els:List DEm)(O:Ops)(prs:List AV)(e:DEm)(at':Int)(hn:els.length<=274877906944)(ha:Ix els at')(hb:Ix els (el els at'.toNat).fbefore):
  Va2 Tryz.prog 199 [.ptr 1000 0,.av (cEm e),jI at'] (stB ps els O prs) [] (jI ((els.length:Nat):Int)) (stB ps (insM els e at') O prs) []:=by
 have hst:stB ps (insM els e at') O prs=[(1000,stC ps (els.length+1) O prs.length),(2001,emB (insM els e at')),(2002,.vec 201 3 prs)]++(Zj 18).map (opB O):=by simp only[stB,Vhb]
 rw[hst];refine bGs Tryz.func199 ?_;refine gO (tn 13 (kp ha (tn 1 (ke (Vcc els at' ha.1 ha.2) (tn 5 z))))) ?_;refine NXW (inT ps els O prs e at') z kx ?_ kx ?_
 ·refine Vai (S':=inS ps els O prs e at') (WK kx) ?_;exact Val (c':=.region 3 (Va7 3 Tryz.f199) true) kx (in3 ps els O prs e at' hn)
 have hl1:(els++[insE els e at']).length=els.length+1:=by simp
 have hb2:Ix (els++[insE els e at']) (el els at'.toNat).fbefore:=⟨hb.1,by have:=hb.2;rw[hl1];omega⟩
 have hb3:0<=(el els at'.toNat).fbefore/\(el els at'.toNat).fbefore<((els.length+1:Nat):Int):=⟨hb.1,by have:=hb.2;omega⟩
 refine DR3 (tn 7 (kp hb3 (tn 1 (kp (Vok (els++[insE els e at']) _ 14 ((els.length:Nat):Int) gj hb2) (kq 5 z))))) kx kx kx ?_;refine BOX (e:=230) (sz:=15) 2001 kx (set_emN (els++[insE els e at']) (el els at'.toNat).fbefore.toNat ((els.length:Nat):Int) (by have:=hb2.1;have:=hb2.2;omega)) ?_
 have hl2:(setN (els++[insE els e at']) (el els at'.toNat).fbefore.toNat ((els.length:Nat):Int)).length=els.length+1:=by rw[setN,Vc7,hl1]
 have ha2:Ix (setN (els++[insE els e at']) (el els at'.toNat).fbefore.toNat ((els.length:Nat):Int)) at':=⟨ha.1,by have:=ha.2;rw[hl2];omega⟩
 have ha3:0<=at'/\at'<((els.length+1:Nat):Int):=⟨ha.1,by have:=ha.2;omega⟩
 refine gO (tn 6 (kp ha3 (tn 1 (kp (Vok (setN (els++[insE els e at']) (el els at'.toNat).fbefore.toNat ((els.length:Nat):Int)) at' 13 ((els.length:Nat):Int) gj ha2) (kq 6 z))))) ?_;refine BOX (e:=230) (sz:=15) 2001 kx (set_emP (setN (els++[insE els e at']) (el els at'.toNat).fbefore.toNat ((els.length:Nat):Int)) at'.toNat ((els.length:Nat):Int) (by have:=ha2.1;have:=ha2.2;omega)) ?_;refine gO (tn 2 z) ?_;exact eNs
theorem rem_to(ps:List DPiece)(els:List DEm)(O:Ops)(prs:List AV)(k:Int)(hk:Ix els k)(hb:Ix els (el els k.toNat).fbefore)(hx:Ix els (el els k.toNat).fnext):
  Va2 Tryz.prog 290 [.ptr 1000 0,jI k] (stB ps els O prs) [] Vas (stB ps (remM els k) O prs) []:=by
 have hl:(setN els (el els k.toNat).fbefore.toNat (el els k.toNat).fnext).length=els.length:=by rw[setN,Vc7]
 have hx2:Ix (setN els (el els k.toNat).fbefore.toNat (el els k.toNat).fnext) (el els k.toNat).fnext:=⟨hx.1,by rw[hl];exact hx.2⟩
 have hst:stB ps (remM els k) O prs=[(1000,stC ps els.length O prs.length),(2001,.vec 230 15 (((setN els (el els k.toNat).fbefore.toNat (el els k.toNat).fnext).map aEm).set (el els k.toNat).fnext.toNat ((((setN els (el els k.toNat).fbefore.toNat (el els k.toNat).fnext).map aEm).getD (el els k.toNat).fnext.toNat (.val undef)).upd 13 (vI (el els k.toNat).fbefore)))),(2002,.vec 201 3 prs)]++(Zj 18).map (opB O):=by
  rw[set_emP _ _ _ (by have:=hx2.1;have:=hx2.2;omega)];simp only[stB,remM_len];rfl
 rw[hst];refine bGs Tryz.func290 ?_;refine gO (tn 5 (kp hk (ke (Vcc els k hk.1 hk.2) (tn 2 z)))) ?_;refine DR3 (tn 8 (kp hb (tn 1 (kp (Vok els _ 14 (el els k.toNat).fnext gj hb) z)))) kx kx kx ?_;refine BOX (e:=230) (sz:=15) 2001 kx (set_emN els (el els k.toNat).fbefore.toNat (el els k.toNat).fnext (by have:=hb.1;have:=hb.2;omega)) ?_;refine DR3 (tn 8 (kp hx (tn 1 (kp (Vok (setN els (el els k.toNat).fbefore.toNat (el els k.toNat).fnext) _ 13 (el els k.toNat).fbefore gj hx2) z)))) kx kx kx ?_;exact eNs
def chrN(c:ByteArray):Nat:=cond (eqs c ⟨#[42]⟩) 0 (cond (eqs c ⟨#[95]⟩) 1 2)
theorem chr_to(c:ByteArray):Va2 Tryz.prog 250 [jS c] [] [] (jI ((chrN c:Nat):Int)) [] []:=by
 unfold chrN;cases h1:eqs c ⟨#[42]⟩with
 |true=>
  refine bGs Tryz.func250 ?_;refine gO (tn 4 (kb h1 (tn 1 z))) ?_;exact eNs
 | false=>
  cases h2:eqs c ⟨#[95]⟩with
  |true=>
   refine bGs Tryz.func250 ?_;refine gO (tn 4 (kb h1 (tn 2 (kb h2 (tn 1 z))))) ?_;exact eNs
  |false=>
   refine bGs Tryz.func250 ?_;refine gO (tn 4 (kb h1 (tn 2 (kb h2 (tn 1 z))))) ?_;exact eNs
theorem chrN_lt(c:ByteArray):chrN c<3:=by
 unfold chrN;cases eqs c ⟨#[42]⟩ <;>cases eqs c ⟨#[95]⟩ <;>decide
def opI(p:DPiece):Nat:=chrN p.fChar*6+(p.fN.tmod 3).toNat*2+(cond p.fClose 1 0:Int).toNat*1
theorem opl_to(ps:List DPiece)(els:List DEm)(O:Ops)(prs:List AV)(p:DPiece)(hN:0<=p.fN):Va2 Tryz.prog 201 [.ptr 1000 0,.av (Vbo p)] (stB ps els O prs) [] (.ptr 1000 (2+opI p)) (stB ps els O prs) []:=by
 have hc:=chr_to p.fChar
 have hl:=chrN_lt p.fChar
 have hi:0<=((chrN p.fChar:Nat):Int)/\((chrN p.fChar:Nat):Int)<3:=⟨by omega,by omega⟩
 have hj:0<=p.fN.tmod 3/\p.fN.tmod 3<3:=⟨Int.tmod_nonneg _ hN,Int.tmod_lt_of_pos _ gj⟩
 have e:∀ b:Bool,2+((chrN p.fChar:Nat):Int).toNat*6+(p.fN.tmod 3).toNat*2+(cond b 1 0:Int).toNat*1=2+(chrN p.fChar*6+(p.fN.tmod 3).toNat*2+(cond b 1 0:Int).toNat*1):=λb=>by omega
 unfold opI;rw[<-e];cases hb:p.fClose with
 |true=>
  refine bGs Tryz.func201 ?_;refine gO (tn 5 (kb hb (tn 1 z))) ?_;refine DR3 (tn 3 (kc hc (tn 2 (kp (show ¬((3:Int)=0) by decide) (tn 3 (kp hi (kp hj (kp (show(0:Int)<=1/\(1:Int)<2 by decide) (tn 1 z))))))))) kx kx kx ?_;exact eNs
 |false=>
  refine bGs Tryz.func201 ?_;refine gO (tn 5 (kb hb z)) ?_;refine DR3 (tn 3 (kc hc (tn 2 (kp (show ¬((3:Int)=0) by decide) (tn 3 (kp hi (kp hj (kp (show(0:Int)<=0/\(0:Int)<2 by decide) (tn 1 z))))))))) kx kx kx ?_;exact eNs
end Go.Proofs.YthbpjmogdonlkaaGreatDoor
namespace Go.Proofs.YthbpjmogdonlkaaGreatDoor
open Go Go.Eng Go.RowKit
theorem n_bsize:(Tryz.prog.info? 80).map (·.size)=some 2:=by kernel_rfl
theorem n_blies:liesAt Tryz.prog Tryz.prog.depth 80 (2 / Tryz.prog.cellsOf 80) 0 80 1=true:=by kernel_rfl
theorem n_bcells:Tryz.prog.cellsOf 5=1:=by kernel_rfl
set_option maxHeartbeats 1000000 in
theorem Vj4(b:Nat)(w:World)(h0:w.cell? ⟨b,0,none⟩=some (.pointer (some ⟨b,0,none⟩))):
  Calls Tryz.prog 83 #[.pointer (some ⟨b,0,none⟩)] w λe w'=>e=.returned (.tuple #[])/\w'=w:=by
 obtain⟨j,hj,_⟩:=Option.map_eq_some_iff.1 n_bsize
 go_enter Tryz.func83,Tryz.ntmps83
 go_wp2
 rw[Lib.run_neq_ptr_same w _ Tryz.underlying78 hj]
 go_wp2
 go_end0
 exact⟨rfl,rfl⟩
set_option maxHeartbeats 1000000 in
theorem Vid(b:Nat)(w:World)(h0:w.cell? ⟨b,0,none⟩=some (.pointer none))(hsh:w.shape? b=some (80,2))(hfz:w.frozen? ⟨b,0,none⟩=false):
  Calls Tryz.prog 83 #[.pointer (some ⟨b,0,none⟩)] w λe w'=>e=.returned (.tuple #[])/\w'=w.setCell ⟨b,0,none⟩ (.pointer (some ⟨b,0,none⟩)):=by
 obtain⟨j,hj,hjs⟩:=Option.map_eq_some_iff.1 n_bsize
 go_enter Tryz.func83,Tryz.ntmps83
 go_wp2
 rw[Lib.run_to_unsafe w ⟨b,0,none⟩ Tryz.underlying78 Tryz.underlying174 hj (by rw[hjs];decide) hsh (Nat.zero_lt_succ 1)];simp only[Result.andThen];rw[Oper.upon_value]
 go_wp2
 rw[run_callFunc_extern Tryz.func126 kx kx kx (e:=Extern.AbiNoEscape.same) kx];rw[Lib.run_noEscape];simp only[Result.andThen];rw[Oper.upon_value]
 go_wp2
 rw[Lib.run_from_unsafe w ⟨b,0,none⟩ Tryz.underlying174 Tryz.underlying78 hj hsh n_blies];simp only[Result.andThen];rw[Oper.upon_value]
 go_wp2
 go_end0
 exact⟨rfl,rfl⟩
theorem lies_off{P:Program}{e:TypeId}(hc:P.cellsOf e=1)(count off n:Nat)(hn:off+n<=count):liesAt P P.depth e count off e n=true:=by
 have hd:P.depth=(2*(P.types.size+Made.depth)+1)+1:=rfl;rw[hd];simp only[liesAt,Zt];left;rw[hd];simp[rowAt,hc,hn,sameLayout,Nat.mod_one]
theorem Vov{P:Program}{w:World}(pt it ty e:TypeId)(hp:P.underlying pt=some (.pointer e))(hc:P.cellsOf e=1)(g off cells:Nat)(hsh:w.shape? g=some (e,cells))(l:List UInt8)(h0:l≠[])(hn:off+l.length<=cells)(h63:l.length<=9223372036854775807)
  (hcell:∀ j x,l[j]? =some x->w.cell? ((⟨g,off,none⟩:Addr).add j)=some (.int .u8 x.toNat)):
  (Builtin.unsafeString_ #[pt,it] ty #[.pointer (some ⟨g,off,none⟩),.int .i64 l.length]).run P w=.ok (.string ⟨l.toArray⟩) (w.freeze ⟨g,off,none⟩ l.length):=by
 have hl:l.length≠0:=by simpa using h0
 have hlb:=Lib.run_loadBytes (P:=P) (w:=w) l ⟨g,off,none⟩ .empty hcell
 have hlies:=lies_off (P:=P) hc (cells / P.cellsOf e) off l.length (by rw[hc];simpa using hn)
 have h63':¬ (9223372036854775807:Int)<(l.length:Int):=by omega
 have hdef:Builtin.unsafeString_ #[pt,it] ty #[.pointer (some ⟨g,off,none⟩),.int .i64 l.length]=
   (do
    let n<-asInt (.int .i64 l.length)
    if n < 0 then runtimePanic (.error "unsafe.String: len out of range")
    if n > IntKind.i64.max then unsupported (.unsafePointer "String: a length above the largest int")
    if n=0 then pure (.string .empty)
    else if<-variablesAt ⟨g,off,none⟩ (<-elemOf pt) n.toNat then do
     let s<-loadBytes ⟨g,off,none⟩ .empty n.toNat
     freeze ⟨g,off,none⟩ n.toNat
     pure (.string s)
    else unsupported (.unsafePointer "String: not so many bytes at ptr")) := rfl
 rw[hdef]
 have hmax:IntKind.i64.max=9223372036854775807:=rfl
 have hneg:¬ (l.length:Int)<0:=by omega
 simp[asInt,asIntOf,hmax,h63',hneg,hl,variablesAt,hsh,elemOf,run_underlying hp,hlies,hlb]
set_option maxHeartbeats 1000000 in
theorem Viz(b g off n cap:Nat)(p:Value)(cur:Array Value)(l:List UInt8)(w:World)(h0:l≠[])(hn:n=l.length)(hcap:l.length<=cap)(hcs:off+l.length<=cur.size)(h63:l.length<=9223372036854775807)
  (hbk:w.heap[b]? =some (.cells #[p,.slice (some ⟨g,off,none⟩) n cap] 80 (0,0))) {fzm:Nat×Nat} (hg:w.heap[g]? =some (.cells cur 5 fzm)) (hcell:∀ j x,l[j]? =some x->w.cell? ⟨g,off+j,none⟩=some (.int .u8 x.toNat)):
  Calls Tryz.prog 38 #[.pointer (some ⟨b,0,none⟩)] w λe w'=>e=.returned (.string ⟨l.toArray⟩)/\w'.heap=(w.freeze ⟨g,off,none⟩ l.length).heap/\w'.os=w.os/\w'.tape=w.tape/\w'.output=w.output:=by
 subst hn
 have hl0:l.length≠0:=by simpa using h0
 have c1:w.drew.cell? ⟨b,1,none⟩=some (.slice (some ⟨g,off,none⟩) l.length cap):=by
  have:w.drew.heap[b]? =some (.cells #[p,.slice (some ⟨g,off,none⟩) l.length cap] 80 (0,0)):=hbk;rw[Lib.cell_of_heap this];rfl
 have hSD:(Builtin.unsafeSliceData_ #[33] 132 #[.slice (some ⟨g,off,none⟩) l.length cap]).run Tryz.prog w.drew=.ok (.pointer (some ⟨g,off,none⟩)) w.drew:=
  Lib.run_unsafeSliceData_row _ _ _ _ _ _ kv
 have hUS:(Builtin.unsafeString_ #[132,3] 9 #[.pointer (some ⟨g,off,none⟩),.int .i64 l.length]).run Tryz.prog w.drew=.ok (.string ⟨l.toArray⟩) (w.drew.freeze ⟨g,off,none⟩ l.length):=by
  refine Vov 132 3 9 5 Tryz.underlying132 n_bcells g off cur.size (by have hg':w.drew.heap[g]? =some (.cells cur 5 fzm):=hg;simp[World.shape?,hg']) l h0 hcs h63 ?_;intro j x hx;rw[Vba];exact hcell j x hx
 clear hbk hg hcell hcs hcap
 go_enter Tryz.func38,Tryz.ntmps38
 go_wp2
 go_region
 all_goals (go_wp2;go_ret;refine⟨rfl,?_⟩;unfold World.freeze;rw[if_neg hl0,if_neg hl0];exact⟨rfl,rfl,rfl,rfl⟩)
theorem step_owned{G:Gh}{w w':World}(hw:Wf G w){id blk:Nat}(ho:G.ow (id,0)=some blk)(hU:G.U blk=0)(hsz:w'.heap.size=w.heap.size)(hos:w'.os=w.os)(htp:w'.tape=w.tape)(hout:w'.output=w.output)(hoth:∀ k,k≠blk->w'.heap[k]? =w.heap[k]?):
  Step G w G w'/\Wf G w'/\∀ κ',κ'≠(id,0)->Keep G w G w' κ':=by
 have hkp:∀ κ',κ'≠(id,0)->Keep G w G w' κ':=λκ' hk'=>⟨rfl,λb hb=>⟨hoth b (λhe=>by subst he;exact hk' (hw.inj κ' (id,0) b hb ho)),rfl⟩⟩
 refine⟨⟨⟨λb=>Zg _,Vkn (λb hb=>hoth b (λhe=>by subst he;omega)),by omega,hos,by rw[htp],hout,λ_ _=>rfl,λ_=>Zg _,λκ h0 _=>hkp κ (by intro e;rw[e]at h0;simp at h0)⟩,λb hb hn=>⟨hoth b (λhe=>hn _ (he ▸ ho)),rfl⟩,λκ b h=>.inl ⟨κ,h⟩⟩,⟨hw.inj,λκ b h=>?_,λb hb=>?_⟩,hkp⟩
 ·rw[hsz];exact hw.lt κ b h
 ·exact hw.zero b kv
theorem Vis{G:Gh}{w:World}{x y:SV}{arr:Array Value}(h:RepSs G w [x,y] arr.toList):∃ u v,arr=#[u,v]/\RepS G w x u/\RepS G w y v:=by
 obtain⟨u,us,h1,h2,v,us',h3,h4,h5⟩:=h;simp only[RepSs]at h5;subst h5 h3;refine⟨u,v,?_,h2,h4⟩;apply Array.ext';rw[h1]
theorem Viw(c0 s:SV)(hc:c0=.av (.val (.pointer none))\/c0=.ptr 1000 0)(hs:s.keys=[]):Va2 Tryz.prog 83 [.ptr 1000 0] [(1000,.cells 80 [c0,s])] [] j0 [(1000,.cells 80 [.ptr 1000 0,s])] []:=by
 refine⟨⟨_,Tryz.func83,by kernel_rfl,by kernel_rfl⟩,λG w vs hw hargs hbx _=>?_⟩;obtain⟨u,us',rfl,⟨blk,ho,rfl⟩,hnil⟩:=hargs;simp only[RepSs]at hnil;subst hnil;obtain⟨blk',arr,g1,g2,g3,g4,g5⟩:=hbx (1000,.cells 80 [c0,s]) ku;simp only at g1;rw[ho]at g1;simp at g1;subst g1;obtain⟨v0,v1,rfl,r0,r1⟩:=Vis g4
 have hc0:w.cell? ⟨blk,0,none⟩=some v0:=by rw[Lib.cell_of_heap g2];rfl
 have htup:∀(G:Gh)(w:World),RepS G w j0 (.tuple #[]):=λG w=>by simp only[RepS,Rep];exact⟨#[],rfl,by simp[RepL]⟩
 rcases hc with rfl|rfl
 ·simp only[RepS,Rep]at r0;obtain⟨rfl,_⟩:=r0
  have hlt:=hw.lt _ _ ho;refine(Vid blk w hc0 (by simp[World.shape?,g2]) (Lib.frozen_of_heap g2 0)).mono ?_;rintro e w' ⟨rfl,rfl⟩
  have hh:(w.setCell ⟨blk,0,none⟩ (.pointer (some ⟨blk,0,none⟩))).heap[blk]? =some (.cells #[.pointer (some ⟨blk,0,none⟩),v1] 80 (0,0)):=by
   simp[World.setCell,Zv,g2]
  obtain⟨s1,s2,s3⟩:=step_owned (w':=w.setCell ⟨blk,0,none⟩ (.pointer (some ⟨blk,0,none⟩))) hw ho g3 (by simp[World.setCell]) rfl rfl rfl (λk hk=>by simp[World.setCell,Zv,Ne.symm hk]);refine⟨.tuple #[],G,rfl,s1,s2,htup _ _,λp hp=>?_,λi hi=>s3 (i,0) (by intro e;apply hi;have:=congrArg Prod.fst e;simp at this;subst this;simp),λ_ _=>rfl,λ_=>rfl⟩;simp at hp;subst hp;refine⟨blk,_,ho,hh,g3,⟨_,_,rfl,⟨blk,ho,rfl⟩,_,[],rfl,r1.persist s1.toExt (λ_ _=>rfl),rfl⟩,?_⟩;intro x hx;simp at hx g5;rcases hx with rfl|rfl
  ·rfl
  ·exact g5.2
 ·obtain⟨blk2,ho2,rfl⟩:=r0;rw[ho]at ho2;simp at ho2;subst ho2;refine(Vj4 blk w hc0).mono ?_;rintro e w' ⟨rfl,rfl⟩;refine⟨.tuple #[],G,rfl,Step.refl _ _,hw,htup _ _,λp hp=>?_,λi hi=>⟨rfl,λ_ _=>⟨rfl,rfl⟩⟩,λ_ _=>rfl,λ_=>rfl⟩;simp at hp;subst hp;exact⟨blk,_,ho,g2,g3,g4,g5⟩
theorem Vev(s:SV)(hs:s.keys=[]):Va2 Tryz.prog 83 [.ptr 1000 0] [(1000,.cells 80 [.son 1000,s])] [] j0 [(1000,.cells 80 [.son 1000,s])] []:=by
 have hn:=Viw (.av (.val (.pointer none))) s (.inl rfl) hs
 have hp:=Viw (.ptr 1000 0) s (.inr rfl) hs;refine⟨hn.1,λG w vs hw hargs hbx hg=>?_⟩
 have hb0:=hbx (1000,.cells 80 [.son 1000,s]) ku;obtain⟨blk',arr,g1,g2,g3,g4,g5⟩:=hb0;obtain⟨v0,v1,rfl,r0,r1⟩:=Vis g4
 have post:Calls Tryz.prog 83 vs.toArray w (λe w'=>∃ v G',e=.returned v/\Step G w G' w'/\Wf G' w'/\RepS G' w' j0 v/\(∀p∈[(1000,ABox.cells 80 [.ptr 1000 0,s])],RepB G' w' p.1 p.2)/\
   (∀i:Nat,i ∉ [(1000,ABox.cells 80 [.ptr 1000 0,s])].map (·.1)->Keep G w G' w' (i,0))/\(∀i,i ∉ Vb8 [(1000,ABox.cells 80 [.ptr 1000 0,s])]->G'.ow (i,0)=G.ow (i,0))/\∀ κ:Key,G'.gen κ=(([]:List (Key×Nat)).lookup κ).getD (G.gen κ)):=by
  rcases r0 with rfl|⟨blk,h1,rfl⟩
  ·exact hn.2 G w vs hw hargs (λp hp=>by simp at hp;subst hp;exact⟨blk',_,g1,g2,g3,⟨_,_,rfl,by simp only[RepS,Rep];exact⟨trivial,rfl⟩,_,[],rfl,r1,rfl⟩,g5⟩) hg
  ·exact hp.2 G w vs hw hargs (λp hp=>by simp at hp;subst hp;exact⟨blk',_,g1,g2,g3,⟨_,_,rfl,⟨blk,h1,rfl⟩,_,[],rfl,r1,rfl⟩,g5⟩) hg
 refine post.mono ?_;rintro e w' ⟨v,G',q1,q2,q3,q4,q5,q6,q7,q8⟩;refine⟨v,G',q1,q2,q3,q4,λp hp=>?_,q6,q7,q8⟩;simp at hp;subst hp;obtain⟨b2,arr2,e1,e2,e3,e4,e5⟩:=q5 (1000,.cells 80 [.ptr 1000 0,s]) ku;obtain⟨u0,u1,rfl,f0,f1⟩:=Vis e4;exact⟨b2,_,e1,e2,e3,⟨_,_,rfl,.inr f0,_,[],rfl,f1,rfl⟩,e5⟩
theorem Vd2{U:Nat->Nat}{w:World}:∀(l:List UInt8)(es:List Value),RepL U w (l.map (λb=>AV.val (.int .u8 b.toNat))) es->es=l.map (λb=>Value.int .u8 b.toNat)
 |[],es,h=>by simpa[RepL]using h
 |b::l,es,h=>by
  simp only[List.map_cons,RepL]at h;obtain⟨u,us',rfl,h2,h3⟩:=h;simp only[Rep]at h2;rw[h2.1,Vd2 l us' h3];rfl
theorem Vio(c0:SV)(k:Nat)(g:Nat)(s:ByteArray)(h0:0<s.size)(h63:s.size<=9223372036854775807):
  Va2 Tryz.prog 38 [.ptr 1000 0] [(1000,.cells 80 [c0,.own (k,6) g 1 (Va8 s)])] [((k,6),g)] (.av (.val (.string s))) [(1000,.cells 80 [c0,.av (.fz 5 (Va8 s))])] [((k,6),g+1)]:=by
 refine⟨⟨_,Tryz.func38,by kernel_rfl,by kernel_rfl⟩,λG w vs hw hargs hbx hgn=>?_⟩;obtain⟨u,us',rfl,⟨blk,ho,rfl⟩,hnil⟩:=hargs;simp only[RepSs]at hnil;subst hnil;obtain⟨blk',arr,g1,g2,g3,g4,g5⟩:=hbx (1000,.cells 80 [c0,.own (k,6) g 1 (Va8 s)]) ku;simp only at g1;rw[ho]at g1;simp at g1;subst g1
 have hgen:G.gen (k,6)=g:=hgn ((k,6),g) ku;obtain⟨v0,v1,rfl,r0,r1⟩:=Vis g4
 have rsl:=r1.own_sl;obtain⟨_,_,a,cap,es,rfl,q2,q3,q4,qn,qsp,q5,q6⟩:=r1
 have hlen:(Va8 s).length=s.size:=by simp[Va8]
 have hes:=Vd2 s.data.toList es q2
 have hvc:Va1 es=es:=Vd3 es (λv hv=>by rw[hes]at hv;simp at hv;obtain⟨b,_,rfl⟩:=hv;rfl);rcases q6 hgen with hcap0|⟨gb,off,cur,e,rfl,o1,o2,o3,o4,o5⟩
 ·rw[hlen]at q4;exact absurd h0 kv
 ·have he:e=5:=by simpa using o5
  subst he
  have hne:gb≠blk:=λh=>by
   have:=hw.inj (k,6) (1000,0) blk (by rw[<-h];exact o1) ho;simp at this
  have hl0:s.data.toList≠[]:=by intro h;have h1:=congrArg List.length h;rw[show s.data.toList.length=s.size by simp]at h1;simp only[List.length_nil]at h1;exact absurd h1 (Nat.ne_of_gt h0)
  have hll:s.data.toList.length=s.size:=by simp
  refine(Viz blk gb off (Va8 s).length cap v0 cur s.data.toList w hl0 (by rw[hlen,hll]) (by rw[hll, <-hlen];exact q4) (by rw[hll];simp only[Nat.mul_one]at o3;rw[hlen]at q4;omega) (by rw[hll];exact h63) g2 o2 (λj x hx=>?_)).mono ?_
  ·rcases q5 with h|⟨b',off',h1,h2,h3⟩
   ·rw[hvc,hes]at h;simp at h;exact absurd h (by simpa using hl0)
   ·simp at h1;obtain⟨rfl,rfl⟩:=h1
    have:=(h3 j (.int .u8 x.toNat) (by rw[hvc,hes];simp[hx])).1;simpa using this
  ·rintro e w' ⟨rfl,hh,hos,htp,hout⟩
   have hfz:w'.heap=w.heap.modify gb (λ| .cells c elem (lo,hi)=>.cells c elem (if lo==hi then(off,off+s.data.toList.length)else(min lo off,max hi (off+s.data.toList.length)))|o=>o):=by
    rw[hh];unfold World.freeze;rw[if_neg (by rw[hll];omega)];rfl
   have hoth:∀ i,i≠gb->w'.heap[i]? =w.heap[i]? :=λi hi=>by rw[hfz,Zv,if_neg (Ne.symm hi)]
   have hsize:w'.heap.size=w.heap.size:=by rw[hfz];simp
   have hgb:w'.heap[gb]? =some (.cells cur 5 (off,off+s.data.toList.length)):=by rw[hfz,Zv,if_pos rfl,o2];rfl
   have hcell:∀ b o,w'.cell? ⟨b,o,none⟩=w.cell? ⟨b,o,none⟩:=λb o=>by
    by_cases hb:b=gb
    ·subst hb;simp[World.cell?,hgb,o2]
    ·exact cell_of_heap (hoth b hb) o
   have himm:Imm G.U w w':=⟨λb o _=>hcell b o,λb es' cl _ hm=>by
    have:b≠gb:=by intro h;subst h;rw[o2]at hm;simp at hm
    rw[hoth b this];exact hm,λb e _ ⟨arr,m,hm⟩=>by
    by_cases hb:b=gb
    ·subst hb;rw[o2]at hm;simp only[Zd,Obj.cells.injEq]at hm;rw[<-hm.2.1];exact⟨_,_,hgb⟩
    ·exact⟨arr,m,by rw[hoth b hb];exact hm⟩,λb o n _ hn ⟨arr,e,lo,hi,hm,hm1,hm2⟩=>by
    by_cases hb:b=gb
    ·subst hb;rw[o2]at hm;simp only[Zd,Obj.cells.injEq,Zh]at hm;obtain⟨_,_,rfl,rfl⟩:=hm;exact absurd (Nat.le_trans (Nat.le_add_left n o) hm2) (by simpa using hn)
    ·exact⟨arr,e,lo,hi,by rw[hoth b hb];exact hm,hm1,hm2⟩,λb e _ h5 ⟨arr,hm⟩=>by
    by_cases hb:b=gb
    ·subst hb;rw[o2]at hm;simp only[Zd,Obj.cells.injEq]at hm;exact absurd hm.2.1.symm h5
    ·exact⟨arr,by rw[hoth b hb];exact hm⟩⟩
   have hkp:∀ κ,κ≠(k,6)->Keep G w {G with gen:=λκ=>if κ=(k,6)then G.gen κ+1 else G.gen κ} w' κ:=λκ hκ=>⟨rfl,λb hb=>⟨hoth b (λh=>by subst h;exact hκ (hw.inj κ (k,6) b hb o1)),rfl⟩⟩
   have hext:Ext G w {G with gen:=λκ=>if κ=(k,6)then G.gen κ+1 else G.gen κ} w':=by
    refine⟨λ_=>Zg _,himm,by omega,hos,by rw[htp],hout,λ_ _=>rfl,λκ=>?_,λκ _ hg=>hkp κ (λh=>?_)⟩
    ·simp only;split <;>omega
    ·subst h;simp at hg
   refine⟨.string ⟨s.data.toList.toArray⟩,{G with gen:=λκ=>if κ=(k,6)then G.gen κ+1 else G.gen κ},rfl,⟨hext,λb _ hn=>⟨hoth b (λh=>hn (k,6) (by rw[h];exact o1)),rfl⟩,λκ b h=>.inl ⟨κ,h⟩⟩,
    ⟨hw.inj,λκ b h=>by rw[hsize];exact hw.lt κ b h,λb hb=>hw.zero b kv⟩,?_,λp hp=>?_,λi hi=>hkp (i,0) ku,λ_ _=>rfl,λκ=>?_⟩
   ·simp only[RepS,Rep];exact⟨by simp,rfl⟩
   ·simp at hp;subst hp
    have rsl':=Rep.mono (λ_=>Zg _) himm _ _ rsl;refine⟨blk,_,ho,by rw[hoth blk (Ne.symm hne)];exact g2,g3,⟨_,_,rfl,r0.persist hext (λκ hκ=>?_),_,[],rfl,?_,rfl⟩,g5⟩
    ·rfl
    ·simp only[RepS,Rep]at rsl' ⊢;obtain⟨a',cap',es',sz',e1,e2,e3,e4,e5,e6,e7⟩:=rsl';refine⟨a',cap',es',sz',e1,e2,e3,e4,e5,e6,e7,λhv ad had=>?_⟩
     have hes':=Vd2 s.data.toList es' e2
     have hvc':Va1 es'=es':=Vd3 es' (λv hv=>by rw[hes']at hv;simp at hv;obtain⟨b,_,rfl⟩:=hv;rfl);simp only[Value.slice.injEq]at e1;obtain⟨e1,_⟩:=e1;rw[<-e1]at had;simp at had;subst had;exact⟨⟨_,_,hgb⟩,_,_,_,_,hgb,Zg _,by rw[hvc',hes'];simp⟩
   ·simp only[List.lookup_cons,List.lookup_nil]
    by_cases hk:κ=(k,6)
    ·subst hk;simp[hgen]
    ·have:(κ==(k,6))=false:=by simpa using hk
     simp[this,hk]
theorem Vlb(c0:SV)(k:Nat)(g:Nat)(s:ByteArray)(h0:0<s.size)(h63:s.size<=9223372036854775807):
  Va2 Tryz.prog 38 [.ptr 1000 0] [(1000,.cells 80 [c0,.own (k,6) g 1 (Va8 s)])] [((k,6),g)] (.av (.val (.string s))) [(1000,.cells 80 [c0,.av (.sl (Va8 s))])] [((k,6),g+1)]:=by
 refine⟨(Vio c0 k g s h0 h63).1,λG w vs hw hargs hbx hgn=>((Vio c0 k g s h0 h63).2 G w vs hw hargs hbx hgn).mono ?_⟩;rintro e w' ⟨v,G',q1,q2,q3,q4,q5,q6,q7,q8⟩;refine⟨v,G',q1,q2,q3,q4,λp hp=>?_,q6,q7,q8⟩;simp at hp;subst hp;obtain⟨b2,arr2,e1,e2,e3,e4,e5⟩:=q5 (1000,.cells 80 [c0,.av (.fz 5 (Va8 s))]) ku;obtain⟨u0,u1,rfl,f0,f1⟩:=Vis e4;exact⟨b2,_,e1,e2,e3,⟨_,_,rfl,f0,_,[],rfl,Rep.fz_sl f1,rfl⟩,e5⟩
end Go.Proofs.YthbpjmogdonlkaaGreatDoor
namespace Go.Proofs.YthbpjmogdonlkaaGreatDoor
open Go Go.Eng
def bldA(t:ByteArray)(g:Nat):ABox:=.cells 80 [.son 1000,.own (1300,6) g 1 (Va8 t)]
def bldG(g:Nat):List (Key×Nat):=[((1300,6),g)]
theorem Vd7(s:ByteArray):(Va8 s).length=s.size:=by simp[Va8]
def u8(c:Int):UInt8:=c.toNat.toUInt8
theorem Vme(t:ByteArray)(c:Int)(hc:0<=c/\c<256):Va8 t++[.val (.int .u8 c)]=Va8 (t.push (u8 c)):=by
 have e:((u8 c).toNat:Int)=c:=by
  unfold u8
  have:c.toNat.toUInt8.toNat=c.toNat:=by
   rw[Nat.toUInt8,UInt8.toNat_ofNat'];omega
  omega
 simp only[Va8,ByteArray.push,Array.toList_push,List.map_append,List.map_cons,List.map_nil,e]
theorem Vp9(t:ByteArray)(g g':Nat)(h:g=g'):∀ p∈[(1000,bldA t g)],∀s∈p.2.svs,OkSV [1000] (bldG g') s:=by
 subst h;intro p hp s hs;simp only[Zp,Zl,or_false]at hp;subst hp;simp only[bldA,ABox.svs,Zp,Zl,or_false]at hs;rcases hs with rfl|rfl
 ·simp[OkSV,SV.keys]
 ·simp[OkSV,bldG,List.lookup]
theorem Vdw(t:ByteArray)(c:Int)(g:Nat)(hsz:t.size<=1073741825)(hc:0<=c/\c<256):Va2 Tryz.prog 75 [.ptr 1000 0,.av (.val (.int .u8 c))] [(1000,bldA t g)] (bldG g) (.av (.val .nilIface)) [(1000,bldA (t.push (u8 c)) (g+1))] (bldG (g+1)):=by
 refine BEGb (λ_:Unit=>.av (.val .nilIface)) () Tryz.func75 kx ku (by simp[bldG]) (by simp[OkSV,SV.keys]) (Vp9 t g g rfl) (by simp[OkSV,SV.keys]) (Vp9 _ _ _ rfl) rfl rfl ?_
 have hu:Uni 1 [(.val (.int .u8 c):AV)]:=by
  intro y hy;simp only[Zp,Zl,or_false]at hy;subst hy;exact⟨rfl,rfl⟩
 have hap:(g:Nat)=g/\Uni 1 [(.val (.int .u8 c):AV)]/\((Va8 t:List AV).length+([(.val (.int .u8 c):AV)]:List AV).length)*1<=140737488355328:=⟨rfl,hu,by rw[Vd7];simp;omega⟩
 refine GO (tn 2 (kg (Vev (.own (1300,6) g 1 (Va8 t)) rfl) trivial (tn 6 (kp hu (kp hap (kw (Vme t c hc) (tn 4 z))))))) kx ?_;refine ENb kx ?_ ?_
 ·intro p hp;simp only[Zp,Zl,or_false]at hp;subst hp;kernel_rfl
 ·intro p hp;simp only[bldG,Zp,Zl,or_false]at hp;subst hp;kernel_rfl
end Go.Proofs.YthbpjmogdonlkaaGreatDoor
namespace Go.Proofs.YthbpjmogdonlkaaGreatDoor
open Go Go.Eng Go.RowKit
theorem size0{s:ByteArray}(h:s.size=0):s=⟨#[]⟩:=by
 apply ByteArray.ext;exact Array.eq_empty_of_size_eq_zero h
theorem Vo8(b:Nat)(p:Value)(w:World)(hbk:w.heap[b]? =some (.cells #[p,.slice none 0 0] 80 (0,0))):
  Calls Tryz.prog 38 #[.pointer (some ⟨b,0,none⟩)] w λe w'=>e=.returned (.string ⟨#[]⟩)/\w'.heap=w.heap/\w'.os=w.os/\w'.tape=w.tape/\w'.output=w.output:=by
 have c1:w.drew.cell? ⟨b,1,none⟩=some (.slice none 0 0):=by
  have:w.drew.heap[b]? =some (.cells #[p,.slice none 0 0] 80 (0,0)):=hbk;rw[Lib.cell_of_heap this];rfl
 have hSD:(Builtin.unsafeSliceData_ #[33] 132 #[.slice none 0 0]).run Tryz.prog w.drew=.ok (.pointer none) w.drew:=rfl
 have hUS:(Builtin.unsafeString_ #[132,3] 9 #[.pointer none,.int .i64 0]).run Tryz.prog w.drew=.ok (.string ⟨#[]⟩) w.drew:=Lib.run_unsafeString_none w.drew _ _ _ none;clear hbk
 go_enter Tryz.func38,Tryz.ntmps38
 go_wp2
 go_region
 all_goals (go_wp2;go_ret;exact⟨rfl,rfl,rfl,rfl,rfl⟩)
theorem Vou{G:Gh}{w w':World}(hw:Wf G w)(hh:w'.heap=w.heap)(hos:w'.os=w.os)(htp:w'.tape=w.tape)(hout:w'.output=w.output):Step G w G w'/\Wf G w'/\∀ κ,Keep G w G w' κ:=by
 have hk:∀ κ,Keep G w G w' κ:=λκ=>⟨rfl,λb hb=>⟨by rw[hh],rfl⟩⟩
 refine⟨⟨⟨λ_=>Zg _,Vkn (λb _=>by rw[hh]),by rw[hh];exact Zg _,hos,by rw[htp],hout,λ_ _=>rfl,λ_=>Zg _,λκ _ _=>hk κ⟩,λb hb _=>⟨by rw[hh],rfl⟩,λκ b hb=>.inl ⟨κ,hb⟩⟩,⟨hw.inj,λκ b hb=>by rw[hh];exact hw.lt κ b hb,λb hb=>hw.zero b (by rw[hh]at hb;exact hb)⟩,hk⟩
theorem Vmo(c0:SV):Va2 Tryz.prog 38 [.ptr 1000 0] [(1000,.cells 80 [c0,.nil])] [] (jS ⟨#[]⟩) [(1000,.cells 80 [c0,.nil])] []:=by
 refine⟨⟨_,Tryz.func38,by kernel_rfl,by kernel_rfl⟩,λG w vs hw hargs hbx _=>?_⟩;obtain⟨u,us',rfl,⟨blk,ho,rfl⟩,hnil⟩:=hargs;simp only[RepSs]at hnil;subst hnil;obtain⟨blk',arr,g1,g2,g3,g4,g5⟩:=hbx (1000,.cells 80 [c0,.nil]) ku;simp only at g1;rw[ho]at g1;simp at g1;subst g1;obtain⟨v0,v1,rfl,r0,r1⟩:=Vis g4
 have e1:v1=.slice none 0 0:=r1;subst e1;refine(Vo8 blk v0 w g2).mono ?_;rintro e w' ⟨rfl,hh,hos,htp,hout⟩;obtain⟨s1,s2,s3⟩:=Vou hw hh hos htp hout;refine⟨_,G,rfl,s1,s2,⟨rfl,rfl⟩,λp hp=>?_,λi _=>s3 _,λ_ _=>rfl,λκ=>rfl⟩;exact(hbx p hp).persist s1.toExt (s3 _) (λ_ _=>rfl)
theorem Vo9(b:Nat)(p:Value)(ad:Option Addr)(cap:Nat)(w:World)(hbk:w.heap[b]? =some (.cells #[p,.slice ad 0 cap] 80 (0,0)))(hz:ad=none\/∃ a,ad=some a/\(cap≠0\/∃ e,TyB w a.block e)):
  Calls Tryz.prog 38 #[.pointer (some ⟨b,0,none⟩)] w λe w'=>e=.returned (.string ⟨#[]⟩)/\Below w.heap.size w w':=by
 have c1:w.drew.cell? ⟨b,1,none⟩=some (.slice ad 0 cap):=by
  have:w.drew.heap[b]? =some (.cells #[p,.slice ad 0 cap] 80 (0,0)):=hbk;rw[Lib.cell_of_heap this];rfl
 obtain⟨q,W,hSD,hB⟩:∃ q W,(Builtin.unsafeSliceData_ #[33] 132 #[.slice ad 0 cap]).run Tryz.prog w.drew=.ok (.pointer q) W/\Below w.heap.size w W:=by
  have hd:=Below.drew (Below.refl w.heap.size w);rcases hz with rfl|⟨a,rfl,hz⟩
  ·exact⟨none,w.drew,rfl,hd⟩
  ·by_cases hc:cap=0
   ·subst hc;obtain⟨e,arr,m,he⟩:=hz.resolve_left ku
    have hsh:w.drew.shape? a.block=some (e,arr.size):=by
     have:w.drew.heap[a.block]? =some (.cells arr e m):=he;simp[World.shape?,this]
    exact⟨_,_,Lib.run_unsafeSliceData_zero w.drew _ _ _ Tryz.underlying132 a 0 _ hsh,hd.alloc (Zg _) _⟩
   ·exact⟨_,_,Lib.run_unsafeSliceData_row w.drew _ _ a 0 cap hc,hd⟩
 have c2:W.cell? ⟨b,1,none⟩=some (.slice ad 0 cap):=by
  have hlt:b<w.heap.size:=by
   rcases Nat.lt_or_ge b w.heap.size with h|h
   ·exact h
   ·rw[Array.getElem?_eq_none h]at hbk;cases hbk
  have:=hB.block b hlt;rw[hbk]at this;rw[Lib.cell_of_heap this];rfl
 have hUS:(Builtin.unsafeString_ #[132,3] 9 #[.pointer q,.int .i64 0]).run Tryz.prog W=.ok (.string ⟨#[]⟩) W:=Lib.run_unsafeString_none W _ _ _ q;clear hbk hz
 go_enter Tryz.func38,Tryz.ntmps38
 go_wp2
 go_region
 all_goals (go_wp2;go_ret;exact⟨rfl,hB⟩)
theorem StringE_to(c0:SV)(k g:Nat):Va2 Tryz.prog 38 [.ptr 1000 0] [(1000,.cells 80 [c0,.own (k,6) g 1 (Va8 ⟨#[]⟩)])] [((k,6),g)] (jS ⟨#[]⟩) [(1000,.cells 80 [c0,.own (k,6) g 1 (Va8 ⟨#[]⟩)])] [((k,6),g)]:=by
 refine⟨⟨_,Tryz.func38,by kernel_rfl,by kernel_rfl⟩,λG w vs hw hargs hbx hgn=>?_⟩;obtain⟨u,us',rfl,⟨blk,ho,rfl⟩,hnil⟩:=hargs;simp only[RepSs]at hnil;subst hnil;obtain⟨blk',arr,g1,g2,g3,g4,g5⟩:=hbx (1000,.cells 80 [c0,.own (k,6) g 1 (Va8 ⟨#[]⟩)]) ku;simp only at g1;rw[ho]at g1;simp at g1;subst g1
 have hgen:G.gen (k,6)=g:=hgn ((k,6),g) ku;obtain⟨v0,v1,rfl,r0,r1⟩:=Vis g4;obtain⟨_,_,a,cap,es,rfl,q2,q3,q4,qn,qsp,q5,q6⟩:=r1
 have hz:a=none\/∃ ad,a=some ad/\(cap≠0\/∃ e,TyB w ad.block e):=by
  rcases q6 hgen with⟨h1,h2|⟨ad,e,h2,_,h3⟩⟩|⟨gb,off,cur,e,rfl,o1,o2,_⟩
  ·exact .inl h2
  ·exact .inr ⟨ad,h2,.inr ⟨e,h3⟩⟩
  ·exact .inr ⟨_,rfl,.inr ⟨e,cur,(0,0),o2⟩⟩
 refine(Vo9 blk v0 a cap w g2 hz).mono ?_;rintro e w' ⟨rfl,hb⟩;obtain⟨s1,s2,s3⟩:=Vc0 hw hb;refine⟨_,G,rfl,s1,s2,⟨rfl,rfl⟩,λp hp=>?_,λi _=>s3 _,λ_ _=>rfl,λκ=>?_⟩
 ·exact(hbx p hp).persist s1.toExt (s3 _) (λ_ _=>rfl)
 ·simp only[List.lookup_cons,List.lookup_nil]
  by_cases hk:κ=(k,6)
  ·subst hk;simp[hgen]
  ·have:(κ==(k,6))=false:=by simpa using hk
   simp[this]
theorem StringZ_to (c0:SV) (s:ByteArray) (h0:0<s.size) (h63:s.size<=9223372036854775807):
    Va2 Tryz.prog 38 [.ptr 1000 0] [(1000,.cells 80 [c0,.av (.fz 5 (Va8 s))])] [] (.av (.val (.string s))) [(1000,.cells 80 [c0,.av (.fz 5 (Va8 s))])] []:=by
  refine⟨⟨_,Tryz.func38,by kernel_rfl,by kernel_rfl⟩,λG w vs hw hargs hbx hgn=>?_⟩;obtain⟨u,us',rfl,⟨blk,ho,rfl⟩,hnil⟩:=hargs;simp only[RepSs]at hnil;subst hnil;obtain⟨blk',arr,g1,g2,g3,g4,g5⟩:=hbx (1000,.cells 80 [c0,.av (.fz 5 (Va8 s))]) ku;simp only at g1;rw[ho]at g1;simp at g1;subst g1;obtain⟨v0,v1,rfl,r0,r1⟩:=Vis g4
  have r1':=r1;simp only[RepS,Rep]at r1;obtain⟨a,cap,es,sz,rfl,q2,q3,q4,q5,q6,q7,q8⟩:=r1
  have hlen:(Va8 s).length=s.size:=by simp[Va8]
  have hes:=Vd2 s.data.toList es q2
  have hvc:Va1 es=es:=Vd3 es (λv hv=>by rw[hes]at hv;simp at hv;obtain⟨b,_,rfl⟩:=hv;rfl)
  have hll:s.data.toList.length=s.size:=by simp
  have hl0:s.data.toList≠[]:=by intro h;have h1:=congrArg List.length h;rw[hll]at h1;simp only[List.length_nil]at h1;exact absurd h1 (Nat.ne_of_gt h0)
  have hel:es.length=s.size:=by rw[hes];simp
  have hne0:Va1 es≠[]:=by intro h;rw[hvc]at h;rw[h]at hel;simp at hel;omega
  rcases q7 with h|⟨gb,off,h1,h2,h3⟩
  · exact absurd h hne0
  subst h1;obtain⟨⟨cur,m,hg⟩,arr',e',lo,hi,hg',hlo,hhi⟩:=q8 hne0 _ rfl;rw[hg]at hg';simp at hg';obtain⟨rfl,rfl,rfl⟩:=hg';rw[hvc,hel]at hhi
  have hcs:off+s.size<=cur.size:=by
    obtain⟨x,hx0⟩:∃ x,es[s.size-1]? =some x:=⟨_,Zw kv⟩
    have hx:=(h3 (s.size-1) x (by rw[hvc];exact hx0)).1;rw[Lib.cell_of_heap hg]at hx
    have:=(Z2.1 hx).1;omega
  refine(Viz blk gb off (Va8 s).length cap v0 cur s.data.toList w hl0 (by rw[hlen,hll]) (by rw[hll, <-hlen];exact q5) (by rw[hll];exact hcs) (by rw[hll];exact h63) g2 hg (λj x hx=>?_)).mono ?_
  · have:=(h3 j (.int .u8 x.toNat) (by rw[hvc,hes];simp[hx])).1;simpa using this
  · rintro e w' ⟨rfl,hh,hos,htp,hout⟩
    have hh':w'.heap=w.heap:=by
      rw[hh];unfold World.freeze;rw[if_neg (by rw[hll];omega)];apply Array.ext_getElem?;intro i;simp only[Zv]
      split
      · next hi' => subst hi';rw[hg];simp only[Yb,Zd]
                    have hlh:(lo==hi)=false:=by simp;omega
                    rw[hlh,hll];simp only[Bool.false_eq_true,if_false];rw[Nat.min_eq_left hlo,Nat.max_eq_left hhi]
      · rfl
    obtain⟨s1,s2,s3⟩:=Vou hw hh' hos htp hout;refine⟨.string ⟨s.data.toList.toArray⟩,G,rfl,s1,s2,?_,λp hp=>?_,λi hi=>s3 _,λ_ _=>rfl,λκ=>rfl⟩
    · simp only[RepS,Rep];exact⟨by simp,rfl⟩
    · exact(hbx p hp).persist s1.toExt (s3 _) (λ_ _=>rfl)
end Go.Proofs.YthbpjmogdonlkaaGreatDoor
namespace Go.Proofs.YthbpjmogdonlkaaGreatDoor
open Go Go.Eng
def vldR(r:Int):Bool:=cond (cond (decide ((0:Int)<=r)) (decide ((r:Int)<55296)) false) true (cond (cond (decide ((57343:Int)<r)) (decide ((r:Int)<=1114111)) false) true false)
theorem vldR_to(r:Int):Va2 Tryz.prog 178 [(.av (.val (.int .i32 r)))] [] [] (jB (vldR r)) [] []:=by
 refine BEG (λr:Bool=>(jB r)) (vldR r) Tryz.func178 kx ?_;refine UF (vldR.eq_1 ..) ?_;refine GO (tn 4 (kj (decide ((0:Int)<=r)) (tn 2 z) z (tn 1 z))) kx ?_;refine CS (λh1=>?_) (λh1=>?_)
 ·obtain⟨h1a,h1o⟩:=Va9 h1
  have h1ap:=of_decide_eq_true h1a
  have h1op:=of_decide_eq_true h1o;refine GO (kb h1 (tn 1 z)) kx ?_;exact EN kx
 ·refine GO (kb h1 (tn 3 (kj (decide ((57343:Int)<r)) (tn 2 z) z (tn 1 z)))) kx ?_;refine CS (λh2=>?_) (λh2=>?_)
  ·obtain⟨h2a,h2o⟩:=Va9 h2
   have h2ap:=of_decide_eq_true h2a
   have h2op:=of_decide_eq_true h2o;refine GO (kb h2 (tn 1 z)) kx ?_;exact EN kx
  ·refine GO (kb h2 (tn 1 z)) kx ?_;exact EN kx
def suaB(n:Int):Bool:=decide ((n:Int)>8)
theorem suaB_to(n:Int):Va2 Tryz.prog 233 [(jI n)] [] [] (jB (suaB n)) [] []:=by
 refine BEG (λr:Bool=>(jB r)) (suaB n) Tryz.func233 kx ?_;refine UF (suaB.eq_1 ..) ?_;refine GO (tn 4 z) kx ?_;exact EN kx
end Go.Proofs.YthbpjmogdonlkaaGreatDoor
namespace Go.Eng
open Go.Lib
section
variable {P:Program}
theorem Vek{o:Oper}{S:St}{t:TypeId}{x:Operand}{s:ByteArray}{id:Nat}(ho:o.op=.range t x)(ht:P.underlying t=some .string)(hx:S.ev x=.av (.val (.string s)))(hid:id<1000)(hn:S.names id=false):
  Sound P o S ⟨True,.ptr id 0,S.addBox id (.it s 0)⟩:=by
 intro _ G w a hrel
 have hv:=hrel.ev x;rw[hx]at hv
 have hu:a.eval x=.string s:=hv.1;obtain⟨s1,s2,s3⟩:=Ve4 hrel.wf (.stringIter s 0) id
 have hrb:=hrel.bind hn (.stringIter s 0);refine⟨.value (.pointer (some ⟨w.heap.size,0,none⟩)),.pointer (some ⟨w.heap.size,0,none⟩),_,_,?_,.inl rfl,s1,⟨hrb.wf,hrb.size,hrb.fr,λp hp=>?_,hrb.gn,hrb.defers⟩,⟨w.heap.size,by simp[Gh.bind],rfl⟩,λi hi=>?_⟩
 ·have e:=run_range_string (P:=P) w t s ht;simp only[execOp,ho,hu,Sem.run_bind,e];rfl
 ·simp only[St.addBox,Zp]at hp;rcases hp with rfl|hp
  ·exact⟨w.heap.size,by simp,by simp[Gh.bind],Vat w _,hrel.wf.zero _ (Zg _)⟩
  ·exact hrb.bx p hp
 ·simp only[Gh.bind];rw[if_neg (by intro h;simp only[Zh]at h;omega)]
theorem step_setIt{G:Gh}{w:World}(hw:Wf G w){id:Nat}{blk:Nat}{s:ByteArray}{pos:Nat}(ho:G.ow (id,0)=some blk)(hh:w.heap[blk]? =some (.stringIter s pos))(hU:G.U blk=0)(pos':Nat):
  Step G w G (w.iterAt blk s pos')/\Wf G (w.iterAt blk s pos')/\∀ κ',κ'≠(id,0)->Keep G w G (w.iterAt blk s pos') κ':=by
 have hoth:∀ k,k≠blk->(w.iterAt blk s pos').heap[k]? =w.heap[k]? :=λk hk=>iterAt_other w blk k s pos' hk
 have hsz:(w.iterAt blk s pos').heap.size=w.heap.size:=iterAt_size w blk s pos'
 have hkp:∀ κ',κ'≠(id,0)->Keep G w G (w.iterAt blk s pos') κ':=λκ' hk'=>⟨rfl,λb hb=>⟨hoth b (λhe=>by subst he;exact hk' (hw.inj κ' (id,0) b hb ho)),rfl⟩⟩
 refine⟨⟨⟨λb=>Zg _,Vkn (λb hb=>hoth b (λhe=>by subst he;omega)),by rw[hsz];exact Zg _,rfl,rfl,rfl,λ_ _=>rfl,λ_=>Zg _,λκ h0 _=>hkp κ (by intro e;rw[e]at h0;simp at h0)⟩,λb hb hn=>⟨hoth b (λhe=>hn _ (he ▸ ho)),rfl⟩,λκ b h=>.inl ⟨κ,h⟩⟩,⟨hw.inj,λκ b h=>?_,λb hb=>?_⟩,hkp⟩
 ·rw[hsz];exact hw.lt κ b h
 ·exact hw.zero b (by rw[hsz]at hb;exact hb)
theorem Vfz{o:Oper}{S:St}{x:Operand}{b:Nat}{s:ByteArray}{pos:Nat}(ho:o.op=.next x true)(hx:S.ev x=.ptr b 0)(hb:S.bx.lookup b=some (.it s pos))(hp:pos<s.size):
  Sound P o S ⟨True,.av (.tup [.val (.bool true),.val (.int .i64 pos),.val (.int .i32 (Utf8.decode s pos).1)]),S.setBox b (.it s (pos+(Utf8.decode s pos).2))⟩:=by
 intro _ G w a hr
 have h2:=hr.ev x;rw[hx]at h2;obtain⟨blk,h3,h4⟩:=h2;obtain⟨blk',g0,g1,g2,g3⟩:=hr.bx _ (Vad hb);simp only at g1;rw[h3]at g1;simp at g1;subst g1;obtain⟨s1,s2,s3⟩:=step_setIt hr.wf h3 g2 g3 (pos+(Utf8.decode s pos).2)
 have hper:∀ s' u,RepS G w s' u->RepS G (w.iterAt blk s (pos+(Utf8.decode s pos).2)) s' u:=λs' u hs=>hs.persist s1.toExt (λ_ _=>rfl)
 refine⟨.value (.tuple #[.bool true,.int .i64 pos,.int .i32 (Utf8.decode s pos).1]),_,_,G,?_,.inl rfl,s1,⟨s2,by simpa[St.setBox]using hr.size,λt s ht=>hper _ _ (hr.fr t s ht),λp hp'=>?_,hr.gn,hr.defers⟩,?_,λ_ _=>rfl⟩
 ·have:=run_next_any_at (P:=P) w blk s pos o.type g2 hp;simp only[execOp,ho,h4,Sem.run_bind,this];rfl
 ·simp only[St.setBox,Zy]at hp';obtain⟨q,hq,rfl⟩:=hp'
  split
  ·rename_i hqb;exact⟨blk,by rw[iterAt_size];exact g0,by rw[hqb];exact h3,iterAt_heap w blk s pos _ g2,g3⟩
  ·rename_i hqb;exact(hr.bx q hq).persist s1.toExt (s3 (q.1,0) (by simpa using hqb)) (λ_ _=>rfl)
 ·exact⟨_,rfl,⟨_,_,rfl,⟨rfl,rfl⟩,_,_,rfl,⟨rfl,rfl⟩,_,_,rfl,⟨rfl,rfl⟩,rfl⟩⟩
theorem Vcx{o:Oper}{S:St}{x:Operand}{b:Nat}{s:ByteArray}{pos:Nat}(ho:o.op=.next x true)(hx:S.ev x=.ptr b 0)(hb:S.bx.lookup b=some (.it s pos))(hp:¬ pos<s.size):
  Sound P o S ⟨True,.av (.tup [.val (.bool false)]),S⟩:=by
 intro _ G w a hr
 have h2:=hr.ev x;rw[hx]at h2;obtain⟨blk,h3,h4⟩:=h2;obtain⟨blk',g0,g1,g2,g3⟩:=hr.bx _ (Vad hb);simp only at g1;rw[h3]at g1;simp at g1;subst g1;refine⟨.value (.tuple #[.bool false]),_,w,G,?_,.inl rfl,Step.refl G w,hr,⟨_,rfl,⟨_,_,rfl,⟨rfl,rfl⟩,rfl⟩⟩,λ_ _=>rfl⟩
 have:=run_next_end_at (P:=P) w blk s pos o.type g2 hp;simp only[execOp,ho,h4,Sem.run_bind,this];rfl
end
end Go.Eng
namespace Go.Proofs.YthbpjmogdonlkaaGreatDoor
open Go Go.Eng
theorem A7.byt{s:ByteArray}(h:A7 s)(j:Nat):((byt s j:Nat):Int)<128:=by
 show(((s.data.getD j 0).toNat:Nat):Int)<128;rw[Zb];cases e:s.data[j]? with
 |none=>simp
 |some b=>
  have:=h j b (by rw[<-e];simp);simp only[Z8];omega
def jR(c:Int):SV:=.av (.val (.int .i32 c))
theorem enc_last(c:Int)(h:128<=c):2<=(Utf8.encode c).size/\(Utf8.encode c).size<=4/\128<=byt (Utf8.encode c) ((Utf8.encode c).size-1):=by
 have hk:∀ k:Nat,(Zs (128+k%64)).toNat=128+k%64:=λk=>by
  have:(128+k%64)<256:=by omega
  simp[Nat.mod_eq_of_lt this]
 obtain⟨n,hn,he⟩:∃ n:Nat,128<=n/\Utf8.encode c=(if n<0x80 then⟨#[Zs n]⟩
 else if n<0x800 then⟨#[Zs (0xC0+n / 64),Zs (0x80+n%64)]⟩
 else if n<0x10000 then⟨#[Zs (0xE0+n / 4096),Zs (0x80+n / 64%64),Zs (0x80+n%64)]⟩
 else⟨#[Zs (0xF0+n / 262144),Zs (0x80+n / 4096%64),Zs (0x80+n / 64%64),Zs (0x80+n%64)]⟩):=by
  refine⟨if Utf8.valid c then c.toNat else Utf8.runeError,?_,rfl⟩
  split
  ·omega
  ·decide
 rw[he,if_neg kv]
 split
 ·refine⟨Zn rfl,Zn rfl,?_⟩
  show 128<=(Zs (0x80+n%64)).toNat
  rw[hk];omega
 ·split
  ·refine⟨Zn rfl,Zn rfl,?_⟩
   show 128<=(Zs (0x80+n%64)).toNat
   rw[hk];omega
  ·refine⟨Zn rfl,Zn rfl,?_⟩
   show 128<=(Zs (0x80+n%64)).toNat
   rw[hk];omega
theorem a7_byt{s:ByteArray}(h:A7 s)(j:Nat):byt s j<128:=by
 have:=A7.byt h j;omega
theorem idx_none:∀(l:List UInt8)(b:UInt8),(∀x∈l,x≠b)->Lib.indexByte l b= -1
 |[],b,_=>rfl
 |x::l,b,h=>by
  have h1:(x==b)=false:=by simpa using h x ku
  have h2:=idx_none l b (λy hy=>h y (by simp[hy]));simp only[Lib.indexByte,h2]
  have h3:¬ x=b:=h x ku;simp[h3]
theorem A7.mem{s:ByteArray}(h:A7 s){b:UInt8}(hb:b∈s.data.toList):b.toNat<128:=by
 obtain⟨n,hn,e⟩:=List.getElem_of_mem hb;exact h n b (by rw[Zw hn,e])
theorem idxB_no{s:ByteArray}(h:A7 s)(c:Int)(h1:128<=c)(h2:c<256):idxB s c= -1:=by
 unfold idxB;refine idx_none _ _ (λx hx e=>?_)
 have:=h.mem hx;subst e;rw[show(c.toNat.toUInt8).toNat=c.toNat by(show c.toNat%256=c.toNat;omega)]at this;omega
noncomputable def irO(r k:Nat):Oper:=regO r Tryz.f128 k
def irS(p:ByteArray)(c:Int)(v:Nat)(l:List (Nat×SV)):St:=sx 187 ([(0,jS p),(1,jR c),(175,.ptr 175 0)]++l) [(175,.it p v)] []
theorem ir0(p:ByteArray)(c:Int):W Tryz.prog (.region 37 (Va7 37 Tryz.f128) false) (λe S1=>e=.normal/\Weak S1 (irS p c 0 [])) (sx 187 [(0,jS p),(1,jR c)] [] []):=by
 refine Van ?_;rw[show(Va7 37 Tryz.f128).toList=[irO 37 0,irO 37 1] by kernel_rfl];refine Var (jS p) 174 kx kx ?_;refine Vc5 (.ptr 175 0) 175 kx (Vek (t:=9) (x:=.tmp 174) (s:=p) (id:=175) kx kx kx gj kx) ?_;exact Vbk rfl ⟨rfl,WK kx⟩
theorem dec_a{s:ByteArray}{v:Nat}(h:v<s.size)(ha:byt s v<128):Utf8.decode s v=(byt s v,1):=by
 have e:(s.get! v).toNat=byt s v:=rfl
 have hd:decide ((s.get! v).toNat<0x80)=true:=decide_eq_true (by rw[e];exact ha);simp only[Utf8.decode,Nat.add_zero,e];rw[if_pos ha]
def irN(p:ByteArray)(c:Int)(v:Nat):St:=sx 187 [(0,jS p),(1,jR c),(175,.ptr 175 0),(176,.av (.tup [vB true,vI ((v:Nat):Int),.val (.int .i32 ((byt p v:Nat):Int))])),(177,jB true)] [(175,.it p (v+1))] []
theorem ir1(p:ByteArray)(c:Int)(v:Nat)(h:v<p.size)(ha:A7 p):W Tryz.prog (.region 38 (Va7 38 Tryz.f128) false) (λe S1=>e=.normal/\Weak S1 (irN p c v)) (irS p c v []):=by
 refine Van ?_;rw[show(Va7 38 Tryz.f128).toList=[irO 38 0,irO 38 1] by kernel_rfl]
 have hs:=Vfz (P:=Tryz.prog) (o:=irO 38 0) (S:=irS p c v []) (x:=.tmp 175) (b:=175) (s:=p) (pos:=v) kx kx kx h;rw[dec_a h (a7_byt ha v)]at hs;refine Vc5 (.av (.tup [vB true,vI ((v:Nat):Int),.val (.int .i32 ((byt p v:Nat):Int))])) 176 kx hs ?_;refine Var (jB true) 177 kx kx ?_;exact Vbk rfl ⟨rfl,WK kx⟩
theorem ir1e(p:ByteArray)(c:Int):W Tryz.prog (.region 38 (Va7 38 Tryz.f128) false) (λe S1=>e=.normal/\Weak S1 (irS p c p.size [(177,jB false)])) (irS p c p.size []):=by
 refine Van ?_;rw[show(Va7 38 Tryz.f128).toList=[irO 38 0,irO 38 1] by kernel_rfl];refine Vc5 (.av (.tup [.val (.bool false)])) 176 kx (Vcx (P:=Tryz.prog) (o:=irO 38 0) (S:=irS p c p.size []) (x:=.tmp 175) (b:=175) (s:=p) (pos:=p.size) kx kx kx (Nat.lt_irrefl _)) ?_;refine Var (jB false) 177 kx kx ?_;exact Vbk rfl ⟨rfl,WK kx⟩
theorem irn_to(p:ByteArray)(c:Int)(hp:p.size<=1073741824)(ha:A7 p)(h1:128<=c):Va2 Tryz.prog 128 [jS p,jR c] [] [] (jI (-1)) [] []:=by
 have d0:decide ((0:Int)<=c)=true:=decide_eq_true kv
 have d1:decide (c<128)=false:=decide_eq_false kv
 by_cases hc:c=65533
 ·have e1:(c==65533)=true:=by rw[hc];rfl
  refine bG Tryz.func128 ?_;refine gO (tn 4 (kb d0 (tn 1 (kb d0 (tn 1 (kb d0 (tn 1 (kb d1 (tn 3 (kb e1 (kq 37 z))))))))))) ?_;refine NXW (irS p c 0 []) z kx ?_ kx ?_
  ·refine Vai (S':=sx 187 [(0,jS p),(1,jR c)] [] []) (WK kx) ?_;exact Val (c':=.region 37 (Va7 37 Tryz.f128) false) kx (ir0 p c)
  refine LP (n:=p.size+1) (λN M S=>∃(v:Nat),v<=p.size/\p.size-v<N/\M=()/\S=irS p c v []) kx ⟨0,by omega,by omega,rfl,rfl⟩ (WK kx) ?_;rintro n0' M S ⟨v,hv,hF0,rfl,rfl⟩;obtain⟨n0',rfl⟩:∃ k,n0'=k+1:=⟨n0'-1,by omega⟩
  refine gO (kq 38 z) ?_
  by_cases hlt:v<p.size
  ·have e2:(((byt p v:Nat):Int)==65533)=false:=beq_false_of_ne (by have:=a7_byt ha v;omega);refine NXW (irN p c v) (kb (b:=true) (d:=true) rfl (tn 6 (kb e2 z))) kx ?_ kx ?_
   ·refine Vai (S':=irS p c v []) (WK kx) ?_;exact Val (c':=.region 38 (Va7 38 Tryz.f128) false) kx (ir1 p c v hlt ha)
   exact AG (m:=n0') ⟨v+1,by omega,by omega,rfl,rfl⟩ (WK kx) kx (Zi _)
  ·obtain rfl:v=p.size:=by omega
   refine NXW (irS p c p.size [(177,jB false)]) (kb (b:=false) (d:=false) rfl z) kx ?_ kx ?_
   ·refine Vai (S':=irS p c p.size []) (WK kx) ?_;exact Val (c':=.region 38 (Va7 38 Tryz.f128) false) kx (ir1e p c)
   refine OUT (tn 1 z) kx ?_;exact eN
 ·have e1:(c==65533)=false:=beq_false_of_ne hc
  have hv:=vldR_to c;cases hvl:vldR c with
  |false=>
   rw[hvl]at hv;refine bG Tryz.func128 ?_;refine gO (tn 4 (kb d0 (tn 1 (kb d0 (tn 1 (kb d0 (tn 1 (kb d1 (tn 3 (kb e1 (tn 1 (kc hv (tn 2 (kb (b:= !false) (d:=true) rfl (tn 1 z))))))))))))))) ?_;exact eN
  | true=>
   rw[hvl]at hv;obtain⟨q1,q2,q3⟩:=enc_last c h1
   have w1:=wrE ((((Utf8.encode c).size:Nat):Int)-1) (((Utf8.encode c).size-1:Nat):Int) kv;refine bG Tryz.func128 ?_;refine gO (tn 4 (kb d0 (tn 1 (kb d0 (tn 1 (kb d0 (tn 1 (kb d1 (tn 3 (kb e1 (tn 1 (kc hv (tn 2 (kb (b:= !true) (d:=false) rfl (tn 5 (kn w1 (tn 4 z))))))))))))))))) ?_;refine uN (sx 187 [(0,jS p),(1,jR c),(7,jS (Utf8.encode c)),(8,jI (((Utf8.encode c).size-1:Nat):Int)),(9,jI (((Utf8.encode c).size-1:Nat):Int)),(10,jI 0)] [] []) 1 ?_
   by_cases hlt:(Utf8.encode c).size-1<p.size
   ·have d2:decide ((((Utf8.encode c).size-1:Nat):Int)<((Za p:Nat):Int))=true:=decide_eq_true kv
    have i1:0<=(((Utf8.encode c).size-1:Nat):Int)/\(((Utf8.encode c).size-1:Nat):Int)<((Za p:Nat):Int):=⟨by omega,by omega⟩
    have hbp:=a7_byt ha ((Utf8.encode c).size-1)
    have w2:=wrE ((((Utf8.encode c).size-1:Nat):Int)+1) (((Utf8.encode c).size:Nat):Int) kv
    have i2:0<=(((Utf8.encode c).size-1:Nat):Int)/\(((Utf8.encode c).size-1:Nat):Int)<(((Utf8.encode c).size:Nat):Int):=⟨by omega,by omega⟩
    have e3:(((byt p ((Utf8.encode c).size-1):Nat):Int) !=((byt (Utf8.encode c) ((Utf8.encode c).size-1):Nat):Int))=true:=by rw[bne_iff_ne];omega
    have sl:0<=(((Utf8.encode c).size:Nat):Int)/\(((Utf8.encode c).size:Nat):Int)<=((Za p:Nat):Int)/\((Za p:Nat):Int)<=((Za p:Nat):Int):=⟨by omega,by omega,Int.le_refl _⟩
    have hx:=Vko (ByteArray.extract p (Utf8.encode c).size (Za p)) ((byt (Utf8.encode c) ((Utf8.encode c).size-1):Nat):Int);rw[idxB_no (ha.ext _ _) _ kv (by have:=Vgc (Utf8.encode c) ((Utf8.encode c).size-1);omega)]at hx;refine gO (tn 4 (kb d2 z)) ?_;refine DR3 (tn 2 (kp i1 (tn 2 (kp i2 (tn 1 z))))) kx kx kx ?_;refine gO (kb e3 z) ?_;refine DR3 (tn 2 (kn w2 (kp sl (tn 2 (kp i2 (kc hx (tn 3 z))))))) kx kx kx ?_;refine gO (kb (b:=true) (d:=true) rfl (tn 1 z)) ?_;refine uO z ?_;exact eN
   ·have d2:decide ((((Utf8.encode c).size-1:Nat):Int)<((Za p:Nat):Int))=false:=decide_eq_false kv;refine gO (tn 4 (kb d2 z)) ?_;refine UO (tn 1 z) kx ?_;exact eN
theorem dec_n{s:ByteArray}{v:Nat}(h:v<s.size)(hb:128<=byt s v):128<=(Utf8.decode s v).1/\1<=(Utf8.decode s v).2/\v+(Utf8.decode s v).2<=s.size/\∀ k,k<(Utf8.decode s v).2->128<=byt s (v+k):=by
 have hc:∀ k,(decide (v+k<s.size)&&(s.get! (v+k)).toNat / 64==2)=true->v+k<s.size/\128<=byt s (v+k):=by
  intro k hk;simp only[Zc,decide_eq_true_eq,beq_iff_eq]at hk
  have e:(s.get! (v+k)).toNat=byt s (v+k):=rfl;rw[e]at hk;omega
 have one:128<=(65533:Nat)/\1<=1/\v+1<=s.size/\∀ k,k<1->128<=byt s (v+k):=by
  refine⟨by omega,by omega,by omega,λk hk=>?_⟩;obtain rfl:k=0:=by omega
  exact hb
 have e0:(s.get! (v+0)).toNat=byt s v:=rfl;unfold Utf8.decode;simp only[e0];rw[if_neg kv]
 split
 ·rename_i h1;simp only[Zc]at h1;obtain⟨q1,q2⟩:=hc 1 (by simpa using h1.2)
  split
  ·rename_i h2;refine⟨h2,Zn rfl,by first|omega|(simp only;omega),λk hk=>?_⟩;rcases(show k=0\/k=1 by simp at hk;omega)with rfl|rfl
   ·exact hb
   ·exact q2
  ·exact one
 ·split
  ·rename_i h1;simp only[Zc]at h1;obtain⟨q1,q2⟩:=hc 1 (by simpa using h1.1.2);obtain⟨q3,q4⟩:=hc 2 (by simpa using h1.2)
   split
   ·rename_i h2;simp only[Zc,decide_eq_true_eq]at h2;refine⟨by have:=h2.1;simp only at this ⊢;omega,Zn rfl,by first|omega|(simp only;omega),λk hk=>?_⟩;rcases(show k=0\/k=1\/k=2 by simp at hk;omega)with rfl|rfl|rfl
    ·exact hb
    ·exact q2
    ·exact q4
   ·exact one
  ·split
   ·rename_i h1;simp only[Zc]at h1;obtain⟨q1,q2⟩:=hc 1 (by simpa using h1.1.1.2);obtain⟨q3,q4⟩:=hc 2 (by simpa using h1.1.2);obtain⟨q5,q6⟩:=hc 3 (by simpa using h1.2)
    split
    ·rename_i h2;simp only[Zc,decide_eq_true_eq]at h2;refine⟨by have:=h2.1;simp only at this ⊢;omega,Zn rfl,by first|omega|(simp only;omega),λk hk=>?_⟩;rcases(show k=0\/k=1\/k=2\/k=3 by simp at hk;omega)with rfl|rfl|rfl|rfl
     ·exact hb
     ·exact q2
     ·exact q4
     ·exact q6
    ·exact one
   ·exact one
theorem irA_to(p:ByteArray)(c:Int)(h0:0<=c)(h1:c<128):Va2 Tryz.prog 128 [jS p,jR c] [] [] (jI (idxB p c)) [] []:=by
 have d0:decide ((0:Int)<=c)=true:=decide_eq_true kv
 have d1:decide (c<128)=true:=decide_eq_true kv
 have hw:IntKind.u8.wrap c=c:=by
  obtain⟨n,rfl⟩:∃ n:Nat,c=n:=⟨c.toNat,by omega⟩
  have:∀ n:Nat,n<128->IntKind.u8.wrap (n:Int)=n:=by decide
  exact this n kv
 have hx:=Vko p (IntKind.u8.wrap c)
 have h:Va2 Tryz.prog 128 [jS p,jR c] [] [] (jI (idxB p (IntKind.u8.wrap c))) [] []:=by
  refine bG Tryz.func128 ?_;refine gO (tn 4 (kb d0 (tn 1 (kb d0 (tn 1 (kb d0 (tn 1 (kb d1 (tn 3 (kc hx (tn 1 z))))))))))) ?_;exact eN
 rwa[hw]at h
theorem Vlx{s:ByteArray}{v:Nat}(h:v<s.size):∃ x,s.data.toList[v]? =some x/\x.toNat=byt s v:=by
 have hz:v<s.data.size:=h;refine⟨s.data[v],by simp[hz],?_⟩
 show _=(s.data.getD v 0).toNat
 rw[Zb,Zm hz];rfl
theorem idxB_mem(p:ByteArray)(x:UInt8):(0<=idxB p ((x.toNat:Nat):Int)) ↔ p.data.toList.contains x=true:=by
 have hx:(((x.toNat:Nat):Int).toNat.toUInt8)=x:=by
  rw[Int.toNat_natCast];exact UInt8.toNat_inj.1 (by show x.toNat%256=x.toNat;have:=x.toNat_lt;omega)
 have key:∀ l:List UInt8,(0<=Lib.indexByte l x) ↔ l.contains x=true:=by
  intro l
  induction l with
  |nil=>simp[Lib.indexByte]
  | cons b l ih=>
   have hb:=idxB_lt l x;simp only[Lib.indexByte,List.contains_cons,Zt]
   by_cases e:b=x
   ·subst e;simp
   ·have e2:¬ (x==b)=true:=by simpa using λq=>e q.symm
    have e3:(b==x)=false:=by simpa using e
    simp only[e3,e2,false_or, <-ih];simp
    split <;>omega
 unfold idxB;rw[hx];exact key _
noncomputable def iaO(r k:Nat):Oper:=regO r Tryz.f187 k
def iaS(s p:ByteArray)(v:Nat)(l:List (Nat×SV)):St:=sx 55 ([(0,jS s),(1,jS p),(45,.ptr 45 0)]++l) [(45,.it s v)] []
theorem ia17(s p:ByteArray):W Tryz.prog (.region 17 (Va7 17 Tryz.f187) false) (λe S1=>e=.normal/\Weak S1 (iaS s p 0 [])) (sx 55 [(0,jS s),(1,jS p)] [] []):=by
 refine Van ?_;rw[show(Va7 17 Tryz.f187).toList=[iaO 17 0,iaO 17 1] by kernel_rfl];refine Var (jS s) 44 kx kx ?_;refine Vc5 (.ptr 45 0) 45 kx (Vek (t:=9) (x:=.tmp 44) (s:=s) (id:=45) kx kx kx gj kx) ?_;exact Vbk rfl ⟨rfl,WK kx⟩
def iaN(s p:ByteArray)(v:Nat):St:=sx 55 [(0,jS s),(1,jS p),(45,.ptr 45 0),(46,.av (.tup [vB true,vI ((v:Nat):Int),.val (.int .i32 (((Utf8.decode s v).1:Nat):Int))])),(47,jB true)] [(45,.it s (v+(Utf8.decode s v).2))] []
theorem ia18(s p:ByteArray)(v:Nat)(h:v<s.size):W Tryz.prog (.region 18 (Va7 18 Tryz.f187) false) (λe S1=>e=.normal/\Weak S1 (iaN s p v)) (iaS s p v []):=by
 refine Van ?_;rw[show(Va7 18 Tryz.f187).toList=[iaO 18 0,iaO 18 1] by kernel_rfl];refine Vc5 (.av (.tup [vB true,vI ((v:Nat):Int),.val (.int .i32 (((Utf8.decode s v).1:Nat):Int))])) 46 kx (Vfz (P:=Tryz.prog) (o:=iaO 18 0) (S:=iaS s p v []) (x:=.tmp 45) (b:=45) (s:=s) (pos:=v) kx kx kx h) ?_;refine Var (jB true) 47 kx kx ?_;exact Vbk rfl ⟨rfl,WK kx⟩
theorem ia18e(s p:ByteArray):W Tryz.prog (.region 18 (Va7 18 Tryz.f187) false) (λe S1=>e=.normal/\Weak S1 (iaS s p s.size [(47,jB false)])) (iaS s p s.size []):=by
 refine Van ?_;rw[show(Va7 18 Tryz.f187).toList=[iaO 18 0,iaO 18 1] by kernel_rfl];refine Vc5 (.av (.tup [.val (.bool false)])) 46 kx (Vcx (P:=Tryz.prog) (o:=iaO 18 0) (S:=iaS s p s.size []) (x:=.tmp 45) (b:=45) (s:=s) (pos:=s.size) kx kx kx (Nat.lt_irrefl _)) ?_;refine Var (jB false) 47 kx kx ?_;exact Vbk rfl ⟨rfl,WK kx⟩
theorem eqs_ne0{s:ByteArray}(h:0<s.size):eqs s ⟨#[]⟩=false:=by
 cases he:eqs s ⟨#[]⟩with
 |false=>rfl
 |true=>
  unfold eqs at he
  have:=congrArg List.length (eq_of_beq he)
  have h2:s.size=0:=by simpa using this
  omega
theorem Vm3{s p:ByteArray}(ha:A7 p){v:Nat}(hn:Lib.NoAny s.data.toList p.data.toList v):∀ n,v+n<=s.size->(∀k,k<n->128<=byt s (v+k))->Lib.NoAny s.data.toList p.data.toList (v+n)
 |0,_,_=>hn
 | n+1,h1,h2=>by
  have ih:=Vm3 ha hn n kv (λk hk=>h2 k kv);obtain⟨x,hx,hxb⟩:=Vlx (s:=s) (v:=v+n) kv;refine ih.succ hx ?_;cases hc:p.data.toList.contains x with
  |false=>rfl
  |true=>
   have:=ha.mem (List.contains_iff_mem.1 hc)
   have:=h2 n kv;omega
theorem idxA8_to(s p:ByteArray)(hs:s.size<=8)(hp:2<=p.size)(hpz:p.size<=1073741824)(ha:A7 p):Va2 Tryz.prog 187 [jS s,jS p] [] [] (jI (Lib.indexAny s.data.toList p.data.toList)) [] []:=by
 have k0:=eqs_ne0 (s:=p) kv
 have k1:(((Za p:Nat):Int)==1)=false:=beq_false_of_ne kv
 have k2:=suaB_to ((Za s:Nat):Int);rw[show suaB ((Za s:Nat):Int)=false from decide_eq_false kv]at k2;refine bG Tryz.func187 ?_;refine gO (tn 3 (kb k0 (tn 3 (kb k1 (tn 2 (kc k2 (kb (b:=false) (d:=false) rfl (kq 17 z)))))))) ?_;refine NXW (iaS s p 0 []) z kx ?_ kx ?_
 ·refine Vai (S':=sx 55 [(0,jS s),(1,jS p)] [] []) (WK kx) ?_;exact Val (c':=.region 17 (Va7 17 Tryz.f187) false) kx (ia17 s p)
 refine LP (n:=s.size+1) (λN M S=>∃(v:Nat),v<=s.size/\Lib.NoAny s.data.toList p.data.toList v/\s.size-v<N/\M=()/\S=iaS s p v []) kx ⟨0,by omega,Lib.NoAny.zero _ _,by omega,rfl,rfl⟩ (WK kx) ?_;rintro n0' M S ⟨v,hv,hno,hF0,rfl,rfl⟩;obtain⟨n0',rfl⟩:∃ k,n0'=k+1:=⟨n0'-1,by omega⟩
 refine gO (kq 18 z) ?_
 by_cases hlt:v<s.size
 ·obtain⟨x,hx,hxb⟩:=Vlx (s:=s) (v:=v) hlt
  by_cases hb:byt s v<128
  ·have hd:=dec_a hlt hb
   have e1:(Utf8.decode s v).1=byt s v:=by rw[hd]
   have e2:(Utf8.decode s v).2=1:=by rw[hd]
   have hc:=irA_to p (((Utf8.decode s v).1:Nat):Int) kv kv
   have hm:=idxB_mem p x;rw[hxb, <-e1]at hm;cases hg:p.data.toList.contains x with
   |true=>
    have hge:decide (idxB p (((Utf8.decode s v).1:Nat):Int)>=0)=true:=decide_eq_true (hm.2 hg);rw[Lib.indexAny_hit hno hx hg];refine NXW (iaN s p v) (kb (b:=true) (d:=true) rfl (tn 6 (kc hc (tn 1 (kb hge (tn 2 z)))))) kx ?_ kx ?_
    ·refine Vai (S':=iaS s p v []) (WK kx) ?_;exact Val (c':=.region 18 (Va7 18 Tryz.f187) false) kx (ia18 s p v hlt)
    refine OUT z kx ?_;exact eN
   |false=>
    have hge:decide (idxB p (((Utf8.decode s v).1:Nat):Int)>=0)=false:=decide_eq_false (λq=>by rw[hm.1 q]at hg;cases hg);refine NXW (iaN s p v) (kb (b:=true) (d:=true) rfl (tn 6 (kc hc (tn 1 (kb hge z))))) kx ?_ kx ?_
    ·refine Vai (S':=iaS s p v []) (WK kx) ?_;exact Val (c':=.region 18 (Va7 18 Tryz.f187) false) kx (ia18 s p v hlt)
    exact AG (m:=n0') ⟨v+(Utf8.decode s v).2,by omega,by rw[e2];exact hno.succ hx hg,by omega,rfl,rfl⟩ (WK kx) kx (Zi _)
  ·obtain⟨q1,q2,q3,q4⟩:=dec_n hlt kv
   have hc:=irn_to p (((Utf8.decode s v).1:Nat):Int) hpz ha kv;refine NXW (iaN s p v) (kb (b:=true) (d:=true) rfl (tn 6 (kc hc (tn 1 (kb (b:=false) (d:=false) rfl z))))) kx ?_ kx ?_
   ·refine Vai (S':=iaS s p v []) (WK kx) ?_;exact Val (c':=.region 18 (Va7 18 Tryz.f187) false) kx (ia18 s p v hlt)
   exact AG (m:=n0') ⟨v+(Utf8.decode s v).2,q3,Vm3 ha hno _ q3 q4,by omega,rfl,rfl⟩ (WK kx) kx (Zi _)
 ·obtain rfl:v=s.size:=by omega
  rw[Lib.indexAny_none (by rw[<-Lib.size_eq];exact hno)];refine NXW (iaS s p s.size [(47,jB false)]) (kb (b:=false) (d:=false) rfl z) kx ?_ kx ?_
  ·refine Vai (S':=iaS s p s.size []) (WK kx) ?_;exact Val (c':=.region 18 (Va7 18 Tryz.f187) false) kx (ia18e s p)
  refine OUT (tn 1 z) kx ?_;exact eN
theorem idxG_to(s p:ByteArray)(hs:s.size<=1073741824)(hp:p.size<=1073741824)(hp2:2<=p.size)(ha:A7 p):Va2 Tryz.prog 187 [jS s,jS p] [] [] (jI (idxA s p)) [] []:=by
 by_cases h8:s.size<=8
 ·have h:=idxA8_to s p h8 hp2 hp ha;unfold idxA;exact h
 ·unfold idxA;refine Vcm ⟨Tryz.f187,Tryz.func187,by kernel_rfl,by kernel_rfl⟩ (λG w us h=>Vqe h) (λG w=>⟨rfl,rfl⟩) (λw=>?_);refine(Any.strings_IndexAny_long Tryz.lays153 zero256 info256 s p w hp2 kv kv kv ha).mono λe w' ⟨he,hw⟩=>⟨he,?_⟩
  rw[hw];exact((RowKit.Below.refl _ _).alloc (Zg _) _).alloc ku _
def endOfK(P:Program)(fn:Func)(X:Cf):Option SV:=match X with
 |some (_,_,.fin .ret S)=>aRes P fn S true
 |some (_,_,.fin .normal S)=>aRes P fn S true
 |_=>none
theorem ENbK{α:Type}{P:Program}{fn:Func}{enc:α->SV}{M:α}{X:Cf}{bx':List (Nat×ABox)}{gn':List (Key×Nat)}(h:endOfK P fn X=some (enc M))(h3:∀ p∈bx',(stOf X).bx.lookup p.1=some p.2)(h4:∀ p∈gn',(stOf X).gen p.1=p.2):Nx P (KE P fn enc bx' gn') M X:=by
 unfold endOfK at h
 split at h
 ·exact⟨endsK (.inl rfl) h rfl h3 h4⟩
 ·exact⟨endsK (.inr rfl) h rfl h3 h4⟩
 ·simp at h
def KBx:Key:=(1300,6)
def bShr(k:IntKind)(x y:Int):Int:=x.fdiv (2 ^ (min y.toNat k.bits))
def pu(t:ByteArray)(l:List Int):ByteArray:=l.foldl (λt e=>t.push (u8 e)) t
def b8(e:Int):AV:=.val (.int .u8 e)
theorem Vo0:∀(l:List Int)(t:ByteArray),(∀e∈l,0<=e/\e<256)->Va8 t++l.map b8=Va8 (pu t l)
 |[],t,_=>by simp[pu]
 |e::l,t,h=>by
  have h1:=Vme t e (h e ku)
  have ih:=Vo0 l (t.push (u8 e)) (λx hx=>h x (by simp[hx]))
  show Va8 t++([b8 e]++l.map b8)=Va8 (pu (t.push (u8 e)) l);rw[<-ih, <-h1,Zz];rfl
theorem pu_sz:∀(l:List Int)(t:ByteArray),(pu t l).size=t.size+l.length
 |[],t=>rfl
 |e::l,t=>by
  show(pu (t.push (u8 e)) l).size=_;rw[pu_sz l,Yc,List.length_cons];omega
def rnA(c:Int):List Int:=
 cond (decide (IntKind.u32.wrap c<=2047)) [bOr .u8 192 (IntKind.u8.wrap (bShr .i32 c 6)),bOr .u8 128 (bAnd .u8 (IntKind.u8.wrap c) 63)]
  (cond (cond (decide (IntKind.u32.wrap c<55296)) true (cond (decide (57343<IntKind.u32.wrap c)) (decide (IntKind.u32.wrap c<=65535)) false)) [bOr .u8 224 (IntKind.u8.wrap (bShr .i32 c 12)),bOr .u8 128 (bAnd .u8 (IntKind.u8.wrap (bShr .i32 c 6)) 63),bOr .u8 128 (bAnd .u8 (IntKind.u8.wrap c) 63)]
   (cond (cond (decide (IntKind.u32.wrap c>65535)) (decide (IntKind.u32.wrap c<=1114111)) false) [bOr .u8 240 (IntKind.u8.wrap (bShr .i32 c 18)),bOr .u8 128 (bAnd .u8 (IntKind.u8.wrap (bShr .i32 c 12)) 63),bOr .u8 128 (bAnd .u8 (IntKind.u8.wrap (bShr .i32 c 6)) 63),bOr .u8 128 (bAnd .u8 (IntKind.u8.wrap c) 63)] [239,191,189]))
def rnB(c:Int):List Int:=cond (decide (IntKind.u32.wrap c<=127)) [IntKind.u8.wrap c] (rnA c)
theorem w8(x:Int):0<=IntKind.u8.wrap x/\IntKind.u8.wrap x<256:=by
 simp only[IntKind.wrap,IntKind.bits,IntKind.signed];simp;omega
theorem or8(x y:Int):0<=bOr .u8 x y/\bOr .u8 x y<256:=w8 _
theorem rnA_ok(c:Int):(∀e∈rnA c,0<=e/\e<256)/\1<=(rnA c).length/\(rnA c).length<=4:=by
 unfold rnA;refine Va5 (λl:List Int=>(∀e∈l,0<=e/\e<256)/\1<=l.length/\l.length<=4) (λ_=>⟨?_,by simp,by simp⟩) (λ_=>Va5 (λl:List Int=>(∀e∈l,0<=e/\e<256)/\1<=l.length/\l.length<=4) (λ_=>⟨?_,by simp,by simp⟩) (λ_=>Va5 (λl:List Int=>(∀e∈l,0<=e/\e<256)/\1<=l.length/\l.length<=4) (λ_=>⟨?_,by simp,by simp⟩) (λ_=>⟨by decide,by decide,by decide⟩)))
 all_goals
  intro e he;simp only[Zp,Zl,or_false]at he
  first
  |(rcases he with rfl|rfl|rfl|rfl <;>exact or8 _ _)
  |(rcases he with rfl|rfl|rfl <;>exact or8 _ _)
  |(rcases he with rfl|rfl <;>exact or8 _ _)
theorem rnB_ok(c:Int):(∀e∈rnB c,0<=e/\e<256)/\1<=(rnB c).length/\(rnB c).length<=4:=by
 unfold rnB;refine Va5 (λl:List Int=>(∀e∈l,0<=e/\e<256)/\1<=l.length/\l.length<=4) (λ_=>⟨?_,by simp,by simp⟩) (λ_=>rnA_ok c);intro e he;simp only[Zp,Zl,or_false]at he;subst he;exact w8 _
theorem uni8(l:List Int):Uni 1 (l.map b8):=by
 intro y hy;obtain⟨x,_,rfl⟩:=Zy.1 hy;exact⟨rfl,rfl⟩
def apP(t:ByteArray)(g:Nat)(l:List Int):Prop:=(g:Nat)=g/\Uni 1 (l.map b8)/\((Va8 t:List AV).length+(l.map b8).length)*1<=140737488355328
theorem ap8(t:ByteArray)(g:Nat)(l:List Int)(hsz:t.size<=1073741825)(hl:l.length<=4):apP t g l:=⟨rfl,uni8 l,by rw[Vd7,List.length_map];omega⟩
theorem apn_to(t:ByteArray)(c:Int)(g:Nat)(hsz:t.size<=1073741825):Va2 Tryz.prog 310 [.own KBx g 1 (Va8 t),jR c] [] (bldG g) (.own KBx (g+1) 1 (Va8 (pu t (rnA c)))) [] (bldG (g+1)):=by
 have hok:=rnA_ok c
 have hu:=uni8 (rnA c)
 have hap:=ap8 t g (rnA c) hsz hok.2.2
 have hb:=Vo0 (rnA c) t hok.1
 have key:∀ l,rnA c=l->(Uni 1 (l.map b8)/\apP t g l/\Va8 t++l.map b8=Va8 (pu t (rnA c))):=by
  rintro l rfl;exact⟨hu,hap,hb⟩
 refine BEGb (λ_:Unit=>.own KBx (g+1) 1 (Va8 (pu t (rnA c)))) () Tryz.func310 kx ku (by simp[bldG]) (by simp[OkSV,SV.keys,bldG,KBx,jR,List.lookup]) ku (by simp[OkSV,SV.keys,bldG,KBx,List.lookup]) ku rfl rfl ?_
 have fin:∀ p∈bldG (g+1),p=(KBx,g+1):=λp hp=>by simpa[bldG,KBx]using hp
 have s6:(0:Int)<=6:=by decide
 have s12:(0:Int)<=12:=by decide
 have s18:(0:Int)<=18:=by decide
 cases h1:decide (IntKind.u32.wrap c<=2047)with
 |true=>
  obtain⟨k1,k2,k3⟩:=key _ (by unfold rnA;rw[h1,cond_true]);refine gO (tn 7 (kb h1 (tn 2 (kp s6 (tn 6 (kp k1 (kp k2 (kw k3 (tn 1 z))))))))) ?_;exact ENbK kx ku (λp hp=>by rw[fin p hp];kernel_rfl)
 | false=>
  cases h2:cond (decide (IntKind.u32.wrap c<55296)) true (cond (decide (57343<IntKind.u32.wrap c)) (decide (IntKind.u32.wrap c<=65535)) false)with
  | true=>
   obtain⟨k1,k2,k3⟩:=key _ (by unfold rnA;rw[h1,cond_false,h2,cond_true]);cases h3:decide (IntKind.u32.wrap c<55296)with
   |true=>
    refine gO (tn 7 (kb h1 (tn 3 (kb h3 (kb h3 (tn 2 (kp s12 (tn 3 (kp s6 (tn 7 (kp k1 (kp k2 (kw k3 (tn 1 z)))))))))))))) ?_;exact ENbK kx ku (λp hp=>by rw[fin p hp];kernel_rfl)
   | false=>
    rw[h3,cond_false]at h2;cases h4:decide (57343<IntKind.u32.wrap c)with
    |false=>rw[h4]at h2;cases h2
    |true=>
     rw[h4,cond_true]at h2;refine gO (tn 7 (kb h1 (tn 3 (kb h3 (tn 3 (kb h4 (tn 1 (kb h4 (tn 1 (kb h4 (tn 1 (kb h2 (tn 2 (kp s12 (tn 3 (kp s6 (tn 7 (kp k1 (kp k2 (kw k3 (tn 1 z))))))))))))))))))))) ?_;exact ENbK kx ku (λp hp=>by rw[fin p hp];kernel_rfl)
  | false=>
   cases h3:decide (IntKind.u32.wrap c<55296)with
   |true=>rw[h3]at h2;cases h2
   | false=>
    have h2':=h2;rw[h3,cond_false]at h2';cases h5:cond (decide (IntKind.u32.wrap c>65535)) (decide (IntKind.u32.wrap c<=1114111)) false with
    | true=>
     obtain⟨k1,k2,k3⟩:=key _ (by unfold rnA;rw[h1,cond_false,h2,cond_false,h5,cond_true]);cases h6:decide (IntKind.u32.wrap c>65535)with
     |false=>rw[h6]at h5;cases h5
     |true=>
      rw[h6,cond_true]at h5
      have h4:decide (57343<IntKind.u32.wrap c)=true:=decide_eq_true (by have:=of_decide_eq_true h6;omega);rw[h4,cond_true]at h2';refine gO (tn 7 (kb h1 (tn 3 (kb h3 (tn 3 (kb h4 (tn 1 (kb h4 (tn 1 (kb h4 (tn 1 (kb h2' (tn 3 (kb h6 (tn 1 (kb h6 (tn 1 (kb h6 (tn 1 (kb h5 (tn 2 (kp s18 (tn 3 (kp s12 (tn 4 (kp s6 (tn 7 (kp k1 (kp k2 (kw k3 (tn 1 z))))))))))))))))))))))))))))))) ?_;exact ENbK kx ku (λp hp=>by rw[fin p hp];kernel_rfl)
    | false=>
     obtain⟨k1,k2,k3⟩:=key _ (by unfold rnA;rw[h1,cond_false,h2,cond_false,h5,cond_false]);cases h4:decide (57343<IntKind.u32.wrap c)with
     |true=>
      rw[h4,cond_true]at h2'
      have h6:decide (IntKind.u32.wrap c>65535)=true:=decide_eq_true (by have:=of_decide_eq_false h2';omega);rw[h6,cond_true]at h5;refine gO (tn 7 (kb h1 (tn 3 (kb h3 (tn 3 (kb h4 (tn 1 (kb h4 (tn 1 (kb h4 (tn 1 (kb h2' (tn 3 (kb h6 (tn 1 (kb h6 (tn 1 (kb h6 (tn 1 (kb h5 (tn 1 (kp k1 (kp k2 (kw k3 (tn 1 z))))))))))))))))))))))))) ?_;exact ENbK kx ku (λp hp=>by rw[fin p hp];kernel_rfl)
     |false=>
      have h6:decide (IntKind.u32.wrap c>65535)=false:=decide_eq_false (by have:=of_decide_eq_false h4;omega);refine gO (tn 7 (kb h1 (tn 3 (kb h3 (tn 3 (kb h4 (kb h4 (kb h4 (tn 1 (kb (b:=false) (d:=false) rfl (tn 3 (kb h6 (kb h6 (kb h6 (tn 1 (kb (b:=false) (d:=false) rfl (tn 1 (kp k1 (kp k2 (kw k3 (tn 1 z))))))))))))))))))))) ?_;exact ENbK kx ku (λp hp=>by rw[fin p hp];kernel_rfl)
theorem apr_to(t:ByteArray)(c:Int)(g:Nat)(hsz:t.size<=1073741825):Va2 Tryz.prog 298 [.own KBx g 1 (Va8 t),jR c] [] (bldG g) (.own KBx (g+1) 1 (Va8 (pu t (rnB c)))) [] (bldG (g+1)):=by
 have fin:∀ p∈bldG (g+1),p=(KBx,g+1):=λp hp=>by simpa[bldG,KBx]using hp
 refine BEGb (λ_:Unit=>.own KBx (g+1) 1 (Va8 (pu t (rnB c)))) () Tryz.func298 kx ku (by simp[bldG]) (by simp[OkSV,SV.keys,bldG,KBx,jR,List.lookup]) ku (by simp[OkSV,SV.keys,bldG,KBx,List.lookup]) ku rfl rfl ?_;cases h1:decide (IntKind.u32.wrap c<=127)with
 |true=>
  have e:rnB c=[IntKind.u8.wrap c]:=by unfold rnB;rw[h1];rfl
  rw[e]
  have hu:=uni8 [IntKind.u8.wrap c]
  have hap:=ap8 t g [IntKind.u8.wrap c] hsz ku
  have hb:=Vo0 [IntKind.u8.wrap c] t (λe he=>by simp at he;subst he;exact w8 c);refine gO (tn 4 (kb h1 (tn 3 (kp hu (kp hap (kw hb (tn 1 z))))))) ?_;exact ENbK kx ku (λp hp=>by rw[fin p hp];kernel_rfl)
 |false=>
  have e:rnB c=rnA c:=by unfold rnB;rw[h1];rfl
  rw[e]
  have hc:=apn_to t c g hsz;refine gO (tn 4 (kb h1 (tn 2 (kg hc (show g=g/\True from⟨rfl,trivial⟩) (tn 1 z))))) ?_;exact ENbK kx ku (λp hp=>by rw[fin p hp];kernel_rfl)
theorem wrr_to(t:ByteArray)(c:Int)(g:Nat)(hsz:t.size<=1073741825):Va2 Tryz.prog 268 [.ptr 1000 0,jR c] [(1000,bldA t g)] (bldG g) (.av (.tup [vI (((rnB c).length:Nat):Int),.val .nilIface])) [(1000,bldA (pu t (rnB c)) (g+1))] (bldG (g+1)):=by
 refine BEGb (λ_:Unit=>.av (.tup [vI (((rnB c).length:Nat):Int),.val .nilIface])) () Tryz.func268 kx ku (by simp[bldG]) (by simp[OkSV,SV.keys,jR]) (Vp9 t g g rfl) (by simp[OkSV,SV.keys]) (Vp9 _ _ _ rfl) rfl rfl ?_
 have ha:=apr_to t c g hsz
 have hok:=rnB_ok c
 have hw:IntKind.wrap .i64 ((((Va8 (pu t (rnB c))):List AV).length:Int)-(((Va8 t):List AV).length:Int))=(((rnB c).length:Nat):Int):=wrE _ _ (by rw[Vd7,Vd7,pu_sz];omega);refine gO (tn 3 (kg (Vev (.own KBx g 1 (Va8 t)) rfl) trivial (tn 12 (kg ha (show g=g/\True from⟨rfl,trivial⟩) (tn 9 (kn hw (tn 2 z))))))) ?_;refine ENb kx ?_ ?_
 ·intro p hp;simp only[Zp,Zl,or_false]at hp;subst hp;kernel_rfl
 ·intro p hp;simp only[bldG,Zp,Zl,or_false]at hp;subst hp;kernel_rfl
theorem len_to(t:ByteArray)(g:Nat):Va2 Tryz.prog 253 [.ptr 1000 0] [(1000,bldA t g)] (bldG g) (jI (((Va8 t:List AV).length:Nat):Int)) [(1000,bldA t g)] (bldG g):=by
 refine BEGb (λ_:Unit=>jI (((Va8 t:List AV).length:Nat):Int)) () Tryz.func253 kx ku (by simp[bldG]) (by simp[OkSV,SV.keys]) (Vp9 t g g rfl) (by simp[OkSV,SV.keys]) (Vp9 _ _ _ rfl) rfl rfl ?_;refine gO (tn 7 z) ?_;refine ENb kx ?_ ?_
 ·intro p hp;simp only[Zp,Zl,or_false]at hp;subst hp;kernel_rfl
 ·intro p hp;simp only[bldG,Zp,Zl,or_false]at hp;subst hp;kernel_rfl
theorem dec_pos{s:ByteArray}{v:Nat}(h:v<s.size):1<=(Utf8.decode s v).2/\v+(Utf8.decode s v).2<=s.size:=by
 by_cases hb:byt s v<128
 ·rw[dec_a h hb];exact⟨Zg _,h⟩
 ·obtain⟨_,q2,q3,_⟩:=dec_n h kv;exact⟨q2,q3⟩
theorem dec_le(s:ByteArray)(v:Nat):(Utf8.decode s v).1<2097152:=by
 have h0:(s.get! (v+0)).toNat<256:=(s.get! (v+0)).toNat_lt;unfold Utf8.decode;simp only
 repeat' split
 all_goals first
  |(show Utf8.runeError<2097152;decide)
  |(simp only;omega)
def fldC(s:ByteArray)(v:Nat):Int:=(((Utf8.decode s v).1:Nat):Int)
def fldT(gap:Bool)(t:ByteArray):ByteArray:=cond gap (cond (decide (((Va8 t:List AV).length:Int)>0)) (t.push (u8 32)) t) t
def fldR(s:ByteArray)(v:Nat):Int:=IntKind.i32.wrap (lowC (IntKind.i64.wrap (fldC s v)))
def fldL(s:ByteArray):Nat->Nat->Bool->ByteArray->ByteArray
 |0,_,_,t=>t
 |n+1,v,gap,t=>if v<s.size then cond (spcC (IntKind.i64.wrap (fldC s v))) (fldL s n (v+(Utf8.decode s v).2) true t) (fldL s n (v+(Utf8.decode s v).2) false (pu (fldT gap t) (rnB (fldR s v))))else t
def fldM(s:ByteArray):ByteArray:=fldL s (s.size+1) 0 false ⟨#[]⟩
theorem fldT_sz(gap:Bool)(t:ByteArray):t.size<=(fldT gap t).size/\(fldT gap t).size<=t.size+1:=by
 unfold fldT;cases gap with
 |false=>simp
 |true=>
  rw[cond_true];exact Va5 (λr:ByteArray=>t.size<=r.size/\r.size<=t.size+1) (λ_=>by rw[Yc];omega) (λ_=>by omega)
def fdB(s t:ByteArray)(v g:Nat):List (Nat×ABox):=[(3,.cells 80 [.son 3,.own KBx g 1 (Va8 t)]),(8,.it s v)]
def fdS(s t:ByteArray)(v g:Nat)(gap:Bool)(l:List (Nat×SV)):St:=sx 27 ([(3,.ptr 3 0),(4,jB gap),(8,.ptr 8 0)]++l) (fdB s t v g) [(KBx,g)]
def fdN(s t:ByteArray)(v g:Nat)(gap:Bool):St:=sx 27 [(3,.ptr 3 0),(4,jB gap),(8,.ptr 8 0),(9,.av (.tup [vB true,vI ((v:Nat):Int),.val (.int .i32 (fldC s v))])),(10,jB true)] (fdB s t (v+(Utf8.decode s v).2) g) [(KBx,g)]
theorem fd3(s:ByteArray):W Tryz.prog (.region 3 (Va7 3 Tryz.f224) false) (λe S1=>e=.normal/\Weak S1 (sx 27 [(3,.ptr 3 0),(4,jB false),(8,.ptr 8 0)] [(3,.cells 80 [.av (.val (.pointer none)),.nil]),(8,.it s 0)] [])) (sx 27 [(0,jS s),(3,.ptr 3 0),(4,jB false)] [(3,.cells 80 [.av (.val (.pointer none)),.nil])] []):=by
 refine Van ?_;rw[show(Va7 3 Tryz.f224).toList=[regO 3 Tryz.f224 0,regO 3 Tryz.f224 1] by kernel_rfl];refine Var (jS s) 7 kx kx ?_;refine Vc5 (.ptr 8 0) 8 kx (Vek (t:=9) (x:=.tmp 7) (s:=s) (id:=8) kx kx kx gj kx) ?_;exact Vbk rfl ⟨rfl,WK kx⟩
theorem fd4(s t:ByteArray)(v g:Nat)(gap:Bool)(h:v<s.size):W Tryz.prog (.region 4 (Va7 4 Tryz.f224) false) (λe S1=>e=.normal/\Weak S1 (fdN s t v g gap)) (fdS s t v g gap []):=by
 refine Van ?_;rw[show(Va7 4 Tryz.f224).toList=[regO 4 Tryz.f224 0,regO 4 Tryz.f224 1] by kernel_rfl];refine Vc5 (.av (.tup [vB true,vI ((v:Nat):Int),.val (.int .i32 (fldC s v))])) 9 kx (Vfz (P:=Tryz.prog) (o:=regO 4 Tryz.f224 0) (S:=fdS s t v g gap []) (x:=.tmp 8) (b:=8) (s:=s) (pos:=v) kx kx kx h) ?_;refine Var (jB true) 10 kx kx ?_;exact Vbk rfl ⟨rfl,WK kx⟩
theorem fd4e(s t:ByteArray)(g:Nat)(gap:Bool):W Tryz.prog (.region 4 (Va7 4 Tryz.f224) false) (λe S1=>e=.normal/\Weak S1 (fdS s t s.size g gap [(10,jB false)])) (fdS s t s.size g gap []):=by
 refine Van ?_;rw[show(Va7 4 Tryz.f224).toList=[regO 4 Tryz.f224 0,regO 4 Tryz.f224 1] by kernel_rfl];refine Vc5 (.av (.tup [.val (.bool false)])) 9 kx (Vcx (P:=Tryz.prog) (o:=regO 4 Tryz.f224 0) (S:=fdS s t s.size g gap []) (x:=.tmp 8) (b:=8) (s:=s) (pos:=s.size) kx kx kx (Nat.lt_irrefl _)) ?_;refine Var (jB false) 10 kx kx ?_;exact Vbk rfl ⟨rfl,WK kx⟩
def b3(t:ByteArray)(g:Nat):List (Nat×ABox):=[(3,.cells 80 [.son 3,.own KBx g 1 (Va8 t)])]
theorem wrr3(t:ByteArray)(c:Int)(g:Nat)(hsz:t.size<=1073741825):Va2 Tryz.prog 268 [.ptr 3 0,jR c] (b3 t g) [(KBx,g)] (.av (.tup [vI (((rnB c).length:Nat):Int),.val .nilIface])) (b3 (pu t (rnB c)) (g+1)) [(KBx,g+1)]:=
 Vcq kx (Vaa (Vaf (3,0) (1000,0) rfl) (wrr_to t c g hsz))
theorem wb3(t:ByteArray)(g:Nat)(hsz:t.size<=1073741825):Va2 Tryz.prog 75 [.ptr 3 0,.av (.val (.int .u8 32))] (b3 t g) [(KBx,g)] (.av (.val .nilIface)) (b3 (t.push (u8 32)) (g+1)) [(KBx,g+1)]:=
 Vcq kx (Vaa (Vaf (3,0) (1000,0) rfl) (Vdw t 32 g kv kv))
theorem len3(t:ByteArray)(g:Nat):Va2 Tryz.prog 253 [.ptr 3 0] (b3 t g) [(KBx,g)] (jI (((Va8 t:List AV).length:Nat):Int)) (b3 t g) [(KBx,g)]:=
 Vcq kx (Vaa (Vaf (3,0) (1000,0) rfl) (len_to t g))
theorem str3(t:ByteArray)(g:Nat)(h0:0<t.size)(hsz:t.size<=1073741825):Va2 Tryz.prog 38 [.ptr 3 0] (b3 t g) [(KBx,g)] (jS t) [(3,.cells 80 [.son 3,.av (.sl (Va8 t))])] [(KBx,g+1)]:=
 Vcq kx (Vaa (Vaf (3,0) (1000,0) rfl) (Vlb (.son 1000) 1300 g t h0 kv))
theorem strE3(g:Nat):Va2 Tryz.prog 38 [.ptr 3 0] (b3 ⟨#[]⟩ g) [(KBx,g)] (jS ⟨#[]⟩) (b3 ⟨#[]⟩ g) [(KBx,g)]:=
 Vcq kx (Vaa (Vaf (3,0) (1000,0) rfl) (StringE_to (.son 1000) 1300 g))
theorem fold_to(s:ByteArray)(hs:s.size<=100000000):Va2 Tryz.prog 224 [jS s] [] [] (jS (fldM s)) [] []:=by
 refine bG Tryz.func224 ?_;refine gO (kq 3 (tn 3 z)) ?_;refine NXW (sx 27 [(3,.ptr 3 0),(4,jB false),(8,.ptr 8 0)] [(3,.cells 80 [.av (.val (.pointer none)),.nil]),(8,.it s 0)] []) z kx ?_ kx ?_
 ·refine Vai (S':=sx 27 [(0,jS s),(3,.ptr 3 0),(4,jB false)] [(3,.cells 80 [.av (.val (.pointer none)),.nil])] []) (WK kx) ?_;exact Val (c':=.region 3 (Va7 3 Tryz.f224) false) kx (fd3 s)
 have hz0:(Va8 ⟨#[]⟩:List AV)=[]:=rfl;refine RT [(3,0,.son 3),(3,1,.own KBx 0 1 (Va8 ⟨#[]⟩))] (ac (show(AV.val (.pointer none))=.val (.pointer none)from rfl) (ac (show(Va8 ⟨#[]⟩:List AV)=[]/\0<6/\(0:Nat)=0 from⟨hz0,by decide,rfl⟩) an)) kx ?_;refine LP (n:=s.size+1) (λN M S=>∃(v g:Nat)(gap:Bool)(t:ByteArray),v<=s.size/\t.size<=5*v/\fldL s N v gap t=fldM s/\s.size-v<N/\M=()/\S=fdS s t v g gap []) kx ⟨0,0,false,⟨#[]⟩,by omega,Zg _,rfl,by omega,rfl,rfl⟩ (WK kx) ?_;rintro n0 M S ⟨v,g,gap,t,hv,hts,hM,hF0,rfl,rfl⟩;obtain⟨n0,rfl⟩:∃ k,n0=k+1:=⟨n0-1,by omega⟩
 rw[fldL]at hM;refine gO (kq 4 z) ?_
 by_cases h1:v<s.size
 ·obtain⟨p1,p2⟩:=dec_pos h1
  have hle:=dec_le s v
  have hcl:fldC s v<2097152:=by unfold fldC;omega
  have hc0:0<=fldC s v:=by unfold fldC;omega
  have hw:IntKind.wrap .i64 (fldC s v)=fldC s v:=wrE _ _ kv
  have hsp:=Vn3 (IntKind.wrap .i64 (fldC s v))
  have hlo:=lowC_to (IntKind.wrap .i64 (fldC s v)) (by rw[hw];omega) (by rw[hw];omega);rw[if_pos h1]at hM;cases hb:spcC (IntKind.wrap .i64 (fldC s v))with
  |true=>
   rw[hb,cond_true]at hM;refine NXW (fdN s t v g gap) (kb (b:=true) (d:=true) rfl (tn 4 (kc hsp (kb hb (tn 1 z))))) kx ?_ kx ?_
   ·refine Vai (S':=fdS s t v g gap []) (WK kx) ?_;exact Val (c':=.region 4 (Va7 4 Tryz.f224) false) kx (fd4 s t v g gap h1)
   exact AG (m:=n0) ⟨v+(Utf8.decode s v).2,g,true,t,p2,by omega,hM,by omega,rfl,rfl⟩ (WK kx) kx (Zi _)
  | false=>
   rw[hb,cond_false]at hM
   have hft:=fldT_sz gap t
   have hrn:=rnB_ok (fldR s v)
   have hpz:=pu_sz (rnB (fldR s v)) (fldT gap t);cases gap with
   |false=>
    have hwr:=wrr3 t (fldR s v) g kv;rw[show fldT false t=t from rfl]at hpz;refine NXW (fdN s t v g false) (kb (b:=true) (d:=true) rfl (tn 4 (kc hsp (kb hb (tn 2 (kb (b:=false) (d:=false) rfl (kb (b:=false) (d:=false) rfl (kb (b:=false) (d:=false) rfl (kb (b:=false) (d:=false) rfl (tn 3 (kc hlo (tn 1 (kg hwr (show g=g/\True from⟨rfl,trivial⟩) z))))))))))))) kx ?_ kx ?_
    ·refine Vai (S':=fdS s t v g false []) (WK kx) ?_;exact Val (c':=.region 4 (Va7 4 Tryz.f224) false) kx (fd4 s t v g false h1)
    exact AG (m:=n0) ⟨v+(Utf8.decode s v).2,g+1,false,pu t (rnB (fldR s v)),p2,by omega,hM,by omega,rfl,rfl⟩ (WK kx) kx (Zi _)
   | true=>
    have hln:=len3 t g;cases hgt:decide (((Va8 t:List AV).length:Int)>0)with
    |false=>
     have e:fldT true t=t:=by unfold fldT;rw[cond_true,hgt];rfl
     rw[e]at hM hpz
     have hwr:=wrr3 t (fldR s v) g kv;refine NXW (fdN s t v g true) (kb (b:=true) (d:=true) rfl (tn 4 (kc hsp (kb hb (tn 2 (kb (b:=true) (d:=true) rfl (kg hln (show g=g/\True from⟨rfl,trivial⟩) (kb (b:=true) (d:=true) rfl (tn 1 (kb (b:=true) (d:=true) rfl (kb hgt (tn 3 (kc hlo (tn 1 (kg hwr (show g=g/\True from⟨rfl,trivial⟩) z))))))))))))))) kx ?_ kx ?_
     ·refine Vai (S':=fdS s t v g true []) (WK kx) ?_;exact Val (c':=.region 4 (Va7 4 Tryz.f224) false) kx (fd4 s t v g true h1)
     exact AG (m:=n0) ⟨v+(Utf8.decode s v).2,g+1,false,pu t (rnB (fldR s v)),p2,by omega,hM,by omega,rfl,rfl⟩ (WK kx) kx (Zi _)
    |true=>
     have e:fldT true t=t.push (u8 32):=by unfold fldT;rw[cond_true,hgt];rfl
     rw[e]at hM hpz;rw[Yc]at hpz
     have hwb:=wb3 t g kv
     have hwr:=wrr3 (t.push (u8 32)) (fldR s v) (g+1) (by rw[Yc];omega);refine NXW (fdN s t v g true) (kb (b:=true) (d:=true) rfl (tn 4 (kc hsp (kb hb (tn 2 (kb (b:=true) (d:=true) rfl (kg hln (show g=g/\True from⟨rfl,trivial⟩) (kb (b:=true) (d:=true) rfl (tn 1 (kb (b:=true) (d:=true) rfl (kb hgt (kg hwb (show g=g/\True from⟨rfl,trivial⟩) (tn 3 (kc hlo (tn 1 (kg hwr (show g+1=g+1/\True from⟨rfl,trivial⟩) z)))))))))))))))) kx ?_ kx ?_
     ·refine Vai (S':=fdS s t v g true []) (WK kx) ?_;exact Val (c':=.region 4 (Va7 4 Tryz.f224) false) kx (fd4 s t v g true h1)
     exact AG (m:=n0) ⟨v+(Utf8.decode s v).2,g+2,false,pu (t.push (u8 32)) (rnB (fldR s v)),p2,by omega,hM,by omega,rfl,rfl⟩ (WK kx) kx (Zi _)
 ·have hvs:v=s.size:=by omega
  subst hvs;rw[if_neg h1]at hM;subst hM;refine NXW (fdS s (fldM s) s.size g gap [(10,jB false)]) (kb (b:=false) (d:=false) rfl z) kx ?_ kx ?_
  ·refine Vai (S':=fdS s (fldM s) s.size g gap []) (WK kx) ?_;exact Val (c':=.region 4 (Va7 4 Tryz.f224) false) kx (fd4e s (fldM s) g gap)
  by_cases h0:0<(fldM s).size
  ·have hst:=str3 (fldM s) g h0 kv;refine OUT (kg hst (show g=g/\True from⟨rfl,trivial⟩) (tn 1 z)) kx ?_;exact eN
  ·have e:=size0 (s:=fldM s) kv;rw[e]
   have hst:=strE3 g;refine OUT (kg hst (show g=g/\True from⟨rfl,trivial⟩) (tn 1 z)) kx ?_;exact eN
def lbC(c:Int):Bool:=letL c||digC c||c==32||c==45||c==95||c==46||c==58
def lbR(s:ByteArray)(v:Nat):Int:=IntKind.i64.wrap (fldC s v)
def lblL(s:ByteArray):Nat->Nat->Bool
 |0,_=>true
 |n+1,v=>if v<s.size then lbC (lbR s v)&&lblL s n (v+(Utf8.decode s v).2)else true
def lblM(s:ByteArray):ByteArray:=if(fldM s).size>60 then⟨#[]⟩else if lblL (fldM s) ((fldM s).size+1) 0 then fldM s else⟨#[]⟩
theorem lblM_sz(s:ByteArray):(lblM s).size<=60:=by
 have e0:(⟨#[]⟩:ByteArray).size=0:=rfl;unfold lblM
 split
 ·rw[e0];omega
 ·split
  ·omega
  ·rw[e0];omega
def lbS(f:ByteArray)(v:Nat)(l:List (Nat×SV)):St:=sx 36 ([(3,jS f),(13,.ptr 13 0)]++l) [(13,.it f v)] []
def lbN(f:ByteArray)(v:Nat):St:=sx 36 [(3,jS f),(13,.ptr 13 0),(14,.av (.tup [vB true,vI ((v:Nat):Int),.val (.int .i32 (fldC f v))])),(15,jB true)] [(13,.it f (v+(Utf8.decode f v).2))] []
theorem lb4(f:ByteArray):W Tryz.prog (.region 4 (Va7 4 Tryz.f277) false) (λe S1=>e=.normal/\Weak S1 (lbS f 0 [])) (sx 36 [(3,jS f)] [] []):=by
 refine Van ?_;rw[show(Va7 4 Tryz.f277).toList=[regO 4 Tryz.f277 0,regO 4 Tryz.f277 1] by kernel_rfl];refine Var (jS f) 12 kx kx ?_;refine Vc5 (.ptr 13 0) 13 kx (Vek (t:=9) (x:=.tmp 12) (s:=f) (id:=13) kx kx kx gj kx) ?_;exact Vbk rfl ⟨rfl,WK kx⟩
theorem lb5(f:ByteArray)(v:Nat)(h:v<f.size):W Tryz.prog (.region 5 (Va7 5 Tryz.f277) false) (λe S1=>e=.normal/\Weak S1 (lbN f v)) (lbS f v []):=by
 refine Van ?_;rw[show(Va7 5 Tryz.f277).toList=[regO 5 Tryz.f277 0,regO 5 Tryz.f277 1] by kernel_rfl];refine Vc5 (.av (.tup [vB true,vI ((v:Nat):Int),.val (.int .i32 (fldC f v))])) 14 kx (Vfz (P:=Tryz.prog) (o:=regO 5 Tryz.f277 0) (S:=lbS f v []) (x:=.tmp 13) (b:=13) (s:=f) (pos:=v) kx kx kx h) ?_;refine Var (jB true) 15 kx kx ?_;exact Vbk rfl ⟨rfl,WK kx⟩
theorem lb5e(f:ByteArray):W Tryz.prog (.region 5 (Va7 5 Tryz.f277) false) (λe S1=>e=.normal/\Weak S1 (lbS f f.size [(15,jB false)])) (lbS f f.size []):=by
 refine Van ?_;rw[show(Va7 5 Tryz.f277).toList=[regO 5 Tryz.f277 0,regO 5 Tryz.f277 1] by kernel_rfl];refine Vc5 (.av (.tup [.val (.bool false)])) 14 kx (Vcx (P:=Tryz.prog) (o:=regO 5 Tryz.f277 0) (S:=lbS f f.size []) (x:=.tmp 13) (b:=13) (s:=f) (pos:=f.size) kx kx kx (Nat.lt_irrefl _)) ?_;refine Var (jB false) 15 kx kx ?_;exact Vbk rfl ⟨rfl,WK kx⟩
theorem lblM_to(s:ByteArray)(hs:s.size<=100000000):Va2 Tryz.prog 277 [jS s] [] [] (jS (lblM s)) [] []:=by
 have hf:=fold_to s hs
 by_cases h60:(fldM s).size>60
 ·have hd:decide (((Za (fldM s):Nat):Int)>60)=true:=decide_eq_true kv;rw[show lblM s=⟨#[]⟩from if_pos h60];refine bG Tryz.func277 ?_;refine gO (tn 2 (kc hf (tn 4 (kb hd (tn 1 z))))) ?_;exact eN
 ·have hd:decide (((Za (fldM s):Nat):Int)>60)=false:=decide_eq_false kv;obtain⟨f,hfe⟩:∃ f,f=fldM s:=⟨_,rfl⟩
  have hM:lblM s=if lblL f (f.size+1) 0 then f else⟨#[]⟩:=by rw[hfe];exact if_neg h60
  rw[hM];rw[<-hfe]at hf hd;clear hM h60 hfe;refine bG Tryz.func277 ?_;refine gO (tn 2 (kc hf (tn 4 (kb hd (kq 4 z))))) ?_;refine NXW (lbS f 0 []) z kx ?_ kx ?_
  ·refine Vai (S':=sx 36 [(3,jS f)] [] []) (WK kx) ?_;exact Val (c':=.region 4 (Va7 4 Tryz.f277) false) kx (lb4 f)
  refine LP (n:=f.size+1) (λN M S=>∃(v:Nat),v<=f.size/\lblL f N v=lblL f (f.size+1) 0/\f.size-v<N/\M=()/\S=lbS f v []) kx ⟨0,by omega,rfl,by omega,rfl,rfl⟩ (WK kx) ?_;rintro n0 M S ⟨v,hv,hL,hF0,rfl,rfl⟩;obtain⟨n0,rfl⟩:∃ k,n0=k+1:=⟨n0-1,by omega⟩
  rw[lblL]at hL;refine gO (kq 5 z) ?_
  by_cases h1:v<f.size
  ·obtain⟨p1,p2⟩:=dec_pos h1;rw[if_pos h1]at hL
   have k1:=letL_to (lbR f v)
   have k2:=Vnx (lbR f v)
   have go:lbC (lbR f v)=true->lblL f n0 (v+(Utf8.decode f v).2)=lblL f (f.size+1) 0:=λh=>by rw[<-hL,h,Bool.true_and]
   cases c1:letL (lbR f v)with
   |true=>
    refine NXW (lbN f v) (kb (b:=true) (d:=true) rfl (tn 6 (kc k1 (tn 1 (kb c1 (kb c1 z)))))) kx ?_ kx ?_
    ·refine Vai (S':=lbS f v []) (WK kx) ?_;exact Val (c':=.region 5 (Va7 5 Tryz.f277) false) kx (lb5 f v h1)
    exact AG (m:=n0) ⟨_,p2,go (by unfold lbC;rw[c1];simp),by omega,rfl,rfl⟩ (WK kx) kx (Zi _)
   | false=>
    cases c2:digC (lbR f v)with
    |true=>
     refine NXW (lbN f v) (kb (b:=true) (d:=true) rfl (tn 6 (kc k1 (tn 1 (kb c1 (tn 1 (kc k2 (tn 1 (kb c2 z))))))))) kx ?_ kx ?_
     ·refine Vai (S':=lbS f v []) (WK kx) ?_;exact Val (c':=.region 5 (Va7 5 Tryz.f277) false) kx (lb5 f v h1)
     exact AG (m:=n0) ⟨_,p2,go (by unfold lbC;rw[c2];simp),by omega,rfl,rfl⟩ (WK kx) kx (Zi _)
    | false=>
     cases c3:(lbR f v==32)with
     |true=>
      refine NXW (lbN f v) (kb (b:=true) (d:=true) rfl (tn 6 (kc k1 (tn 1 (kb c1 (tn 1 (kc k2 (tn 1 (kb c2 (tn 3 (kb c3 (kb c3 z)))))))))))) kx ?_ kx ?_
      ·refine Vai (S':=lbS f v []) (WK kx) ?_;exact Val (c':=.region 5 (Va7 5 Tryz.f277) false) kx (lb5 f v h1)
      exact AG (m:=n0) ⟨_,p2,go (by unfold lbC;rw[c3];simp),by omega,rfl,rfl⟩ (WK kx) kx (Zi _)
     | false=>
      cases c4:(lbR f v==45)with
      |true=>
       refine NXW (lbN f v) (kb (b:=true) (d:=true) rfl (tn 6 (kc k1 (tn 1 (kb c1 (tn 1 (kc k2 (tn 1 (kb c2 (tn 3 (kb c3 (tn 3 (kb c4 (kb c4 z)))))))))))))) kx ?_ kx ?_
       ·refine Vai (S':=lbS f v []) (WK kx) ?_;exact Val (c':=.region 5 (Va7 5 Tryz.f277) false) kx (lb5 f v h1)
       exact AG (m:=n0) ⟨_,p2,go (by unfold lbC;rw[c4];simp),by omega,rfl,rfl⟩ (WK kx) kx (Zi _)
      | false=>
       cases c5:(lbR f v==95)with
       |true=>
        refine NXW (lbN f v) (kb (b:=true) (d:=true) rfl (tn 6 (kc k1 (tn 1 (kb c1 (tn 1 (kc k2 (tn 1 (kb c2 (tn 3 (kb c3 (tn 3 (kb c4 (tn 3 (kb c5 (kb c5 z)))))))))))))))) kx ?_ kx ?_
        ·refine Vai (S':=lbS f v []) (WK kx) ?_;exact Val (c':=.region 5 (Va7 5 Tryz.f277) false) kx (lb5 f v h1)
        exact AG (m:=n0) ⟨_,p2,go (by unfold lbC;rw[c5];simp),by omega,rfl,rfl⟩ (WK kx) kx (Zi _)
       | false=>
        cases c6:(lbR f v==46)with
        |true=>
         refine NXW (lbN f v) (kb (b:=true) (d:=true) rfl (tn 6 (kc k1 (tn 1 (kb c1 (tn 1 (kc k2 (tn 1 (kb c2 (tn 3 (kb c3 (tn 3 (kb c4 (tn 3 (kb c5 (tn 3 (kb c6 (kb c6 z)))))))))))))))))) kx ?_ kx ?_
         ·refine Vai (S':=lbS f v []) (WK kx) ?_;exact Val (c':=.region 5 (Va7 5 Tryz.f277) false) kx (lb5 f v h1)
         exact AG (m:=n0) ⟨_,p2,go (by unfold lbC;rw[c6];simp),by omega,rfl,rfl⟩ (WK kx) kx (Zi _)
        | false=>
         cases c7:(lbR f v==58)with
         |true=>
          refine NXW (lbN f v) (kb (b:=true) (d:=true) rfl (tn 6 (kc k1 (tn 1 (kb c1 (tn 1 (kc k2 (tn 1 (kb c2 (tn 3 (kb c3 (tn 3 (kb c4 (tn 3 (kb c5 (tn 3 (kb c6 (tn 3 (kb c7 z))))))))))))))))))) kx ?_ kx ?_
          ·refine Vai (S':=lbS f v []) (WK kx) ?_;exact Val (c':=.region 5 (Va7 5 Tryz.f277) false) kx (lb5 f v h1)
          exact AG (m:=n0) ⟨_,p2,go (by unfold lbC;rw[c7];simp),by omega,rfl,rfl⟩ (WK kx) kx (Zi _)
         |false=>
          have hn:lblL f (f.size+1) 0=false:=by rw[<-hL];unfold lbC;rw[c1,c2,c3,c4,c5,c6,c7];rfl
          rw[hn];refine NXW (lbN f v) (kb (b:=true) (d:=true) rfl (tn 6 (kc k1 (tn 1 (kb c1 (tn 1 (kc k2 (tn 1 (kb c2 (tn 3 (kb c3 (tn 3 (kb c4 (tn 3 (kb c5 (tn 3 (kb c6 (tn 3 (kb c7 (tn 1 z)))))))))))))))))))) kx ?_ kx ?_
          ·refine Vai (S':=lbS f v []) (WK kx) ?_;exact Val (c':=.region 5 (Va7 5 Tryz.f277) false) kx (lb5 f v h1)
          refine OUT z kx ?_;exact eN
  ·have hvs:v=f.size:=by omega
   subst hvs;rw[if_neg h1]at hL;rw[<-hL];refine NXW (lbS f f.size [(15,jB false)]) (kb (b:=false) (d:=false) rfl z) kx ?_ kx ?_
   ·refine Vai (S':=lbS f f.size []) (WK kx) ?_;exact Val (c':=.region 5 (Va7 5 Tryz.f277) false) kx (lb5e f)
   refine OUT (tn 2 z) kx ?_;exact eN
end Go.Proofs.YthbpjmogdonlkaaGreatDoor
namespace Go.Proofs.YthbpjmogdonlkaaGreatDoor
open Go Go.Eng Go.RowKit
theorem idx1_to(s:ByteArray)(c:UInt8):Va2 Tryz.prog 313 [jS s,jS ⟨#[c]⟩] [] [] (jI (idxB s (c.toNat:Int))) [] []:=by
 refine Vcm ⟨Tryz.f313,Tryz.func313,by kernel_rfl,by kernel_rfl⟩ (λG w us h=>Vqe h) (λG w=>⟨rfl,rfl⟩) (λw=>?_);refine(Any.stringslite_Index_one Tryz.lays219 s c w).mono λe w' ⟨he,hw⟩=>⟨?_,by rw[hw];exact Below.refl _ _⟩
 have e2:(c.toNat:Int).toNat.toUInt8=c:=by simp
 rw[he];unfold idxB;rw[e2]
end Go.Proofs.YthbpjmogdonlkaaGreatDoor
namespace Go.Proofs.YthbpjmogdonlkaaGreatDoor
open Go Go.Eng
def ctlM(s:ByteArray):(ByteArray×ByteArray×Bool):=cond (decide ((idxB s 93:Int)>=0)) (ByteArray.extract s 0 (Int.toNat (idxB s 93)),ByteArray.extract s (Int.toNat ((idxB s 93)+((Za (⟨#[93]⟩):Nat):Int))) (Za s),true) (s,⟨#[]⟩,false)
theorem ctlM_to(s:ByteArray)(hs:s.size<=1073741824):Va2 Tryz.prog 302 [(jS s),(jS (⟨#[93]⟩))] [] [] (.av (.tup [(vS ((ctlM s).1)),(vS ((ctlM s).2.1)),(vB ((ctlM s).2.2))])) [] []:=by
 refine BEG (λr:(ByteArray×ByteArray×Bool)=>(.av (.tup [(vS r.1),(vS r.2.1),(vB r.2.2)]))) (ctlM s) Tryz.func302 kx ?_;refine UF (ctlM.eq_1 ..) ?_
 have:=idxB_bd s 93
 have h93:Za (⟨#[93]⟩)=1:=rfl;refine GO (tn 5 (kc (idx1_to s 93) (tn 3 z))) kx ?_;refine CSd (λh1p h1=>?_) (λh1p h1=>?_)
 ·refine GO (kb h1 z) kx ?_
  have:=Vag s 0 (Int.toNat (idxB s 93))
  have:=Vag s (Int.toNat ((idxB s 93)+((Za (⟨#[93]⟩):Nat):Int))) (Za s)
  have d2:=wrE ((idxB s 93)+((Za (⟨#[93]⟩):Nat):Int)) ((idxB s 93)+((Za (⟨#[93]⟩):Nat):Int)) kv;refine DR3 (tn 2 (kp (show 0<=(0:Int)/\(0:Int)<=idxB s 93/\idxB s 93<=((Za s:Nat):Int)from(by first|omega|(simp only[Va6,true_and];omega))) (tn 4 (ko (nO d2) (kp d2 (kp (show 0<=((idxB s 93)+((Za (⟨#[93]⟩):Nat):Int):Int)/\((idxB s 93)+((Za (⟨#[93]⟩):Nat):Int):Int)<=((Za s:Nat):Int)/\((Za s:Nat):Int)<=((Za s:Nat):Int)from(by first|omega|(simp only[Va6,true_and];omega))) (tn 3 z))))))) kx kx kx ?_;exact EN kx
 ·refine GO (kb h1 (tn 4 z)) kx ?_;exact EN kx
def cutM(s:ByteArray):(ByteArray×ByteArray×Bool):=((ctlM s).1,(ctlM s).2.1,(ctlM s).2.2)
theorem cutM_to(s:ByteArray)(hs:s.size<=1073741824):Va2 Tryz.prog 276 [(jS s),(jS (⟨#[93]⟩))] [] [] (.av (.tup [(vS ((cutM s).1)),(vS ((cutM s).2.1)),(vB ((cutM s).2.2))])) [] []:=by
 refine BEG (λr:(ByteArray×ByteArray×Bool)=>(.av (.tup [(vS r.1),(vS r.2.1),(vB r.2.2)]))) (cutM s) Tryz.func276 kx ?_;refine UF (cutM.eq_1 ..) ?_;refine GO (tn 5 (kc (ctlM_to s ky) (tn 6 z))) kx ?_;exact EN kx
theorem wdtI_bd(b:Int):0<=wdtI b/\wdtI b<=4:=by
 unfold wdtI
 repeat' (first|exact Va5 (λr:Int=>0<=r/\r<=4) (λ_=>by decide) (λ_=>by decide)|refine Va5 (λr:Int=>0<=r/\r<=4) (λ_=>?_) (λ_=>?_)|decide)
theorem bShl_bd(y:Int)(h:0<=y/\y<=60):0<bShl .i64 1 y/\bShl .i64 1 y<=1152921504606846976:=by
 obtain⟨n,rfl⟩:∃ n:Nat,y=n:=⟨y.toNat,by omega⟩
 have hn:n<=60:=by omega
 have:∀ n:Nat,n<=60->0<bShl .i64 1 (n:Int)/\bShl .i64 1 (n:Int)<=1152921504606846976:=by decide
 exact this n hn
def nxtN_L0(s:ByteArray)(i:Int):Nat->Int->Nat->(Int×Int)
 |0,_,_=>default
 |n0+1,v4,v71=>cond (decide (((v71:Nat):Int)<(wdtI ((byt s (Int.toNat i):Nat):Int))-1)) (cond (cond (decide (((byt s (Int.toNat ((i+1)+((v71:Nat):Int))):Nat):Int)<128)) true (decide (((byt s (Int.toNat ((i+1)+((v71:Nat):Int))):Nat):Int)>191))) (65533,1) (nxtN_L0 s i n0 (bOr .i64 (bShl .i64 v4 6) (IntKind.i64.wrap (bAnd .u8 ((byt s (Int.toNat ((i+1)+((v71:Nat):Int))):Nat):Int) 63))) (v71+1))) (v4,wdtI ((byt s (Int.toNat i):Nat):Int))
def nxtN(s:ByteArray)(i:Int):(Int×Int):=cond (cond (decide ((i:Int)<0)) true (decide ((i:Int)>=((Za s:Nat):Int)))) ((-1),0) (cond (cond ((wdtI ((byt s (Int.toNat i):Nat):Int):Int)==0) true (decide ((((Za s:Nat):Int)-i:Int)<wdtI ((byt s (Int.toNat i):Nat):Int)))) (65533,1) (cond ((wdtI ((byt s (Int.toNat i):Nat):Int):Int)==1) (IntKind.i64.wrap ((byt s (Int.toNat i):Nat):Int),1) (cond (cond (decide (((byt s (Int.toNat (i+1)):Nat):Int)<(sndI ((byt s (Int.toNat i):Nat):Int)).1)) true (decide (((byt s (Int.toNat (i+1)):Nat):Int)>(sndI ((byt s (Int.toNat i):Nat):Int)).2))) (65533,1) (nxtN_L0 s i ((4-Int.toNat 0)+1) (bAnd .i64 (IntKind.i64.wrap ((byt s (Int.toNat i):Nat):Int)) ((bShl .i64 1 (7-(wdtI ((byt s (Int.toNat i):Nat):Int))))-1)) 0))))
theorem Vcf(s:ByteArray)(i:Int)(hs:s.size<=1073741824)(h0:0<=i)(h1:i<=s.size):Va2 Tryz.prog 144 [(jS s),(jI i)] [] [] (.av (.tup [(vI ((nxtN s i).1)),(vI ((nxtN s i).2))])) [] []:=by
 refine BEG (λr:(Int×Int)=>(.av (.tup [(vI r.1),(vI r.2)]))) (nxtN s i) Tryz.func144 kx ?_;refine UF (nxtN.eq_1 ..) ?_;refine GO (tn 5 (kj (decide ((i:Int)<0)) z (tn 4 z) z)) kx ?_;refine CS (λh1=>?_) (λh1=>?_)
 ·refine GO (kb h1 (tn 2 z)) kx ?_;exact EN kx
 ·obtain⟨h1a,h1o⟩:=Vae h1
  have h1ap:=of_decide_eq_false h1a
  have h1op:=of_decide_eq_false h1o
  have:=wdtI_bd ((byt s (Int.toNat i):Nat):Int);refine GO (kb h1 (tn 2 (kp (ib s i kv) (kc (wdtI_to ((byt s (Int.toNat i):Nat):Int)) (tn 4 (kj ((wdtI ((byt s (Int.toNat i):Nat):Int):Int)==0) z (tn 3 (hn (λh=>by have j0:=h.2;have j0p:=ne_of_beq_false j0;exact(wrE (((Za s:Nat):Int)-i) (((Za s:Nat):Int)-i) kv)) (tn 2 z))) z)))))) kx ?_;refine CS (λh2=>?_) (λh2=>?_)
  ·refine GO (kb h2 (tn 2 z)) kx ?_;exact EN kx
  ·obtain⟨h2a,h2o⟩:=Vae h2
   have h2ap:=ne_of_beq_false h2a
   have h2op:=of_decide_eq_false h2o;refine GO (kb h2 (tn 2 z)) kx ?_;refine CSe (λh3p h3=>?_) (λh3p h3=>?_)
   ·have:=Vee s (Int.toNat i)
    have:=Vgc s (Int.toNat i);refine GO (kb h3 (tn 2 (kp (ib s i kv) (tn 3 z)))) kx ?_;exact EN kx
   ·refine GO (kb h3 (tn 2 (kp (ib s i kv) (kc (sndI_to ((byt s (Int.toNat i):Nat):Int)) (tn 7 (kn (wrE (i+1) (i+1) kv) (kp (ib s (i+1) kv) (tn 3 (kj (decide (((byt s (Int.toNat (i+1)):Nat):Int)<(sndI ((byt s (Int.toNat i):Nat):Int)).1)) z (tn 2 (hn (λh=>by have j0:=h.2;have j0p:=of_decide_eq_false j0;exact(wrE (i+1) (i+1) kv)) (hp (λh=>by have j0:=h.2;have j0p:=of_decide_eq_false j0;exact(ib s (i+1) kv)) (tn 2 z)))) z))))))))) kx ?_;refine CS (λh4=>?_) (λh4=>?_)
    ·refine GO (kb h4 (tn 2 z)) kx ?_;exact EN kx
    ·obtain⟨h4a,h4o⟩:=Vae h4
     have h4ap:=of_decide_eq_false h4a
     have h4op:=of_decide_eq_false h4o;refine GO (kb h4 z) kx ?_
     have:=Vee s (Int.toNat i)
     have:=Vgc s (Int.toNat i)
     have:=bShl_bd (7-(wdtI ((byt s (Int.toNat i):Nat):Int))) kv
     have d5:=wrE (7-(wdtI ((byt s (Int.toNat i):Nat):Int))) (7-(wdtI ((byt s (Int.toNat i):Nat):Int))) kv
     have d6:=wrE ((bShl .i64 1 (7-(wdtI ((byt s (Int.toNat i):Nat):Int))))-1) ((bShl .i64 1 (7-(wdtI ((byt s (Int.toNat i):Nat):Int))))-1) kv;refine DR3 (tn 2 (kp (show 0<=(i:Int)/\(i:Int)<((Za s:Nat):Int)from(by first|omega|(simp only[Va6,true_and];omega))) (tn 2 (ko (nO d5) (kp d5 (kp (show 0<=(7-(wdtI ((byt s (Int.toNat i):Nat):Int)):Int)from kv) (ko (nO d6) (kp d6 (tn 3 (kn (wrE ((wdtI ((byt s (Int.toNat i):Nat):Int))-1) ((wdtI ((byt s (Int.toNat i):Nat):Int))-1) kv) (tn 1 z))))))))))) kx kx kx ?_;refine LP (λN M S=>∃ v4:Int,∃v71:Nat,(0<=v71)/\(4-Int.toNat v71<N)/\M=nxtN_L0 s i N v4 v71/\S=(sx 95 [(0,(jS s)),(1,(jI i)),(4,(jI v4)),(6,(jI (wdtI ((byt s (Int.toNat i):Nat):Int)))),(70,(jI ((wdtI ((byt s (Int.toNat i):Nat):Int))-1))),(71,(jI ((v71:Nat):Int)))] [] [])) kx ⟨_,_,by first|omega|assumption|(simp only[Va6];omega)|(simp;done)|(simp;omega),by omega,rfl,rfl⟩ (WK kx) ?_;rintro n0 M S ⟨v4,v71,hv,hF0,rfl,rfl⟩;obtain⟨n0,rfl⟩:∃ k,n0=k+1:=⟨n0-1,by omega⟩
     refine UF (nxtN_L0.eq_2 ..) ?_;refine GO (tn 1 z) kx ?_;refine CSd (λh7p h7=>?_) (λh7p h7=>?_)
     ·refine GO (kb h7 (tn 4 (kn (wrE (i+1) (i+1) kv) (tn 1 (kn (wrE ((i+1)+((v71:Nat):Int)) ((i+1)+((v71:Nat):Int)) kv) (kp (ib s ((i+1)+((v71:Nat):Int)) kv) (tn 4 (kj (decide (((byt s (Int.toNat ((i+1)+((v71:Nat):Int))):Nat):Int)<128)) z (tn 2 z) z)))))))) kx ?_;refine CS (λh8=>?_) (λh8=>?_)
      ·refine GO (kb h8 (tn 2 z)) kx ?_;refine OUT z kx ?_;exact EN kx
      ·obtain⟨h8a,h8o⟩:=Vae h8
       have h8ap:=of_decide_eq_false h8a
       have h8op:=of_decide_eq_false h8o;refine GO (kb h8 (tn 1 (kp (show 0<=(6:Int)from gj) (tn 5 (kn (wrE (((v71:Nat):Int)+1) ((v71+1:Nat):Int) kv) (tn 1 z)))))) kx ?_;exact AG ⟨_,_,by first|omega|assumption|(simp only[Va6];omega)|(simp;done)|(simp;omega),by omega,rfl,rfl⟩ (WK kx) kx (Zi _)
     ·refine GO (kb h7 z) kx ?_;refine OUT (tn 4 z) kx ?_;exact EN kx
end Go.Proofs.YthbpjmogdonlkaaGreatDoor
