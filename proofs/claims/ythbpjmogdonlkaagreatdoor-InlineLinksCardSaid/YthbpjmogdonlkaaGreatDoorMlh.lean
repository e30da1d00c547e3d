/- Texts joined by a program (merge.py). -/
import Derived.Test.YthbpjmogdonlkaaGreatDoorMlg
import Derived.Test.YthbpjmogdonlkaaGreatDoorMle
import Derived.Lib.AppendIntMem
import Derived.Test.YthbpjmogdonlkaaGreatDoorMlf
import Derived.Test.YthbpjmogdonlkaaGreatDoorMld
import Derived.KernelRfl
import Derived.ProofKit
import Derived.SliceStrings
import Derived.Lib.LaidU8
import Derived.Shelf.Vars
import Derived.MakeChecks
import Derived.JoinedOf
import Derived.Test.YthbpjmogdonlkaaGreatDoorRows
set_option linter.unusedSimpArgs false
set_option linter.unusedVariables false
set_option maxRecDepth 100000
set_option maxHeartbeats 4000000
open Nat renaming lt_succ_self -> Za
open ByteArray renaming size -> Zb
open List renaming mem_singleton -> Zc
open List renaming mem_append -> Zd
open List renaming length_append -> Ze
open ByteArray renaming size_append -> Zf
open List renaming take_of_length_le -> Zg
open List renaming not_mem_nil -> Zh
open Int renaming toNat -> Zi
open List renaming dropLast_subset -> Zj
open List renaming getD_eq_getElem?_getD -> Zk
open Int renaming mul_le_mul_of_nonneg_left -> Zl
open List renaming mem_cons -> Zm
open List renaming mem_or_eq_of_mem_set -> Zn
open List renaming getElem?_eq_getElem -> Zo
open Int renaming mul_le_mul_of_nonneg_right -> Zp
open Option.some renaming inj -> Zq
open List renaming length_map -> Zr
open List renaming length_singleton -> Zs
open Nat renaming mul_le_mul_right -> Zt
namespace Go.Proofs.YthbpjmogdonlkaaGreatDoor
open Go Go.Eng
def rnC:ABox:=.cells 146 [.mp 7,.mp 8]
def rnM(b:Nat)(ks:List Int)(la:List (List Int)):ABox:=.mi ks (Vdb b 3 (rwF la) la.length)
def rnBx(ka:List Int)(la:List (List Int))(kd:List Int)(ld:List (List Int)):List (Nat×ABox):=[(2,.cells 146 [NM,NM]),(3,rnC),(7,rnM 5000 ka la),(8,rnM rnB2 kd ld)]
def rnSt(s:ByteArray)(ka:List Int)(la:List (List Int))(kd:List Int)(ld:List (List Int))(sl:List (Nat×SV)):St:=sx 58 ([(0,jS s),(2,.ptr 2 0),(3,.ptr 3 0)]++sl) (rnBx ka la kd ld) (rnG 3 la ld)
theorem WO_wk{P:Program}{ops:Array Oper}{l:List Oper}{Q:St->Prop}{S S':St}(hw:Weak S S')(h:WO P ops l Q S'):WO P ops l Q S:=λmore Q' G w a hr k=>h more Q' G w a (hw G w a hr) k
def rnS0(s:ByteArray):St:=sx 58 [(0,jS s),(2,.ptr 2 0),(7,.mp 7),(8,.mp 8)] [(2,.cells 146 [NM,NM]),(7,.mi [] []),(8,.mi [] [])] []
theorem rn1G(s:ByteArray):W Tryz.prog (.region 1 (Va7 1 Tryz.f88) false) (λe S1=>e=.normal/\Weak S1 (rnSt s [] [] [] [] [])) (Sr0 s):=by
 refine Van ?_;rw[show(Va7 1 Tryz.f88).toList=[regO 1 Tryz.f88 0,regO 1 Tryz.f88 1,regO 1 Tryz.f88 2,regO 1 Tryz.f88 3,regO 1 Tryz.f88 4] by kernel_rfl];refine Vc5 (.mp 7) 7 kx (Vel (t:=144) (k:=3) (e:=36) (r:=none) (id:=7) kx kx (by intro x h;cases h) gj kx) ?_;refine Vc5 (.mp 8) 8 kx (Vel (t:=144) (k:=3) (e:=36) (r:=none) (id:=8) kx kx (by intro x h;cases h) gj kx) ?_;refine WO_wk (mi_weak (b:=7) kx) ?_;refine WO_wk (mi_weak (b:=8) kx) ?_;refine WO_wk (S':=rnS0 s) (WK kx) ?_;refine WO_maps (S2:=((rnS0 s).put (some 9) .junk).addBox 3 (.cells 146 [NM,NM])) (t:=146) (m1:=7) (m2:=8) (d1:=9) (d2:=3) (bt:=16) (b1:=7) (b2:=8) (pl:=[(0,1),(1,1)]) (l2:=[NM,NM]) kx kx kx kx kx rfl rfl kx kx (Nat.lt_of_lt_of_eq (by decide:9<58) kx) (Nat.lt_of_lt_of_eq (by decide:3<58) kx) gj kx kx kx kx rfl ?_;exact Vbk rfl ⟨rfl,WK kx⟩
def Vbr(d:Bool):Nat:=cond d 46 26
noncomputable def rnO(d:Bool):Array Oper:=Va7 (cond d 10 8) Tryz.f88
noncomputable def rnQ(d:Bool)(i:Nat):Oper:=(rnO d).getD i ((rnO d).getD 0 default)
def rnVal(d:Bool)(v w:SV)(n i:Int):Nat->SV
 |0=>.ptr 3 (cond d 1 0)
 |1=>.mp (cond d 8 7)
 |2=>jI n
 |3=>.ptr 3 (cond d 1 0)
 |4=>.mp (cond d 8 7)
 |5=>jI n
 |6=>v
 |7=>jI i
 |8=>jL [vI i]
 |_=>w
def rnSl(i e n:Int):List (Nat×SV):=[(4,jI i),(5,jI e),(6,jI n)]
theorem uniV(i:Int):Uni 1 [vI i]:=by
 intro y hy;simp only[Zm,Zh,or_false]at hy;subst hy;exact⟨rfl,rfl⟩
theorem u36:Vbb Tryz.prog 36=some 3:=by kernel_rfl
theorem i3:Vak Tryz.prog 3=some (1,8,some (.int .i64 0)):=by kernel_rfl
theorem Vkg{a:Array Edge}{k:Nat}(h:a.toList.any (λx=>x.on==k&&(match x.ground with| .data=>true|_=>false))=true):(⟨k,.data⟩:Edge)∈a:=by
 rw[List.any_eq_true]at h;obtain⟨x,h1,h2⟩:=h;rw[Bool.and_eq_true,beq_iff_eq]at h2;obtain⟨h2,h3⟩:=h2;obtain⟨n,g⟩:=x;simp only at h2 h3
 split at h3
 ·subst h2;simpa using h1
 ·cases h3
theorem rnQ_at(d:Bool)(j:Nat)(hj:j<11):(rnO d)[j]? =some (rnQ d j):=by
 have hs:(rnO d).size=11:=by cases d <;>kernel_rfl
 unfold rnQ;rw[Array.getD_eq_getD_getElem?,Array.getElem?_eq_getElem kv,Option.getD_some]
def rnK(d:Bool)(ks:List Int)(la:List (List Int))(n:Int):Key:=rowK (cond d rnB2 5000) 3 (rowJ ks la n)
theorem sound_row{o:Oper}{S:St}{t b bb:Nat}{x i:Operand}{ks:List Int}{la:List (List Int)}{s:Int}(ho:o.op=.lookup 144 x i false)(hx:S.ev x=.mp b)(hi:S.ev i=.av (.val (.int .i64 s)))
  (hb:S.bx.lookup b=some (.mi ks (Vdb bb 3 (rwF la) la.length))) (hl:ks.length=la.length):Sound Tryz.prog o S ⟨True,.own (rowK bb 3 (rowJ ks la s)) (rwF la (rowJ ks la s)).length 1 (rwF la (rowJ ks la s)),S⟩:=by
 intro _ G w a hr;obtain⟨nx,v,w',G',h1,h2,h3,h4,h5,h6⟩:=Vjz (P:=Tryz.prog) (k:=3) (e:=36) (sz:=1) (bt:=24) ho hx hi kx kx kx hb trivial G w a hr;refine⟨nx,v,w',G',h1,h2,h3,h4,?_,h6⟩
 have h5:RepS G' w' (mgetS ks (Vdb bb 3 (rwF la) la.length) s) v:=h5;rw[mgetS_rows hl]at h5;cases hp:Vbp ks s with
 |some j=>rw[hp]at h5;exact h5
 |none=>
  rw[hp]at h5
  have e1:rowJ ks la s=la.length:=by simp[rowJ,hp]
  have e2:rwF la la.length=[]:=by simp[rwF]
  simp only[RepS]at h5;rw[e1,e2,h5];exact⟨Nat.succ_pos _,Nat.zero_le _,none,0,[],rfl,by simp[RepL],by simp,by simp,by simp,by simp,.inl (by simp[Va1]),λ_=>.inl ⟨rfl,.inl rfl⟩⟩
theorem rn8(d:Bool)(s:ByteArray)(ka:List Int)(la:List (List Int))(kd:List Int)(ld:List (List Int))(i e n:Int)(hka:ka.length=la.length)(hkd:kd.length=ld.length)(hla:la.length<2147483648)
  (hr:(rwF (cond d ld la) (rowJ (cond d kd ka) (cond d ld la) n)).length<=1073741824):
  W Tryz.prog (.region (cond d 10 8) (rnO d) true) (λx S1=>x=.normal/\Weak S1 (rnSt s (cond d ka (Vh8 ka n)) (cond d la (Vbq ka la n i)) (cond d (Vh8 kd n) kd) (cond d (Vbq kd ld n i) ld) (rnSl i e n))) (rnSt s ka la kd ld (rnSl i e n)):=by
 have hl4:(rnSt s ka la kd ld (rnSl i e n)).fr.length=58:=by kernel_rfl
 have hbs:Vbr d=26\/Vbr d=46:=by cases d <;>simp[Vbr]
 obtain⟨ks,hks⟩:∃ ks,ks=cond d kd ka:=⟨_,rfl⟩
 obtain⟨rs,hrs⟩:∃ rs,rs=cond d ld la:=⟨_,rfl⟩
 have hkr:ks.length=rs.length:=by rw[hks,hrs];cases d <;>assumption
 rw[<-hks, <-hrs]at hr;obtain⟨v,hv⟩:∃ v:SV,v=.own (rnK d ks rs n) (rwF rs (rowJ ks rs n)).length 1 (rwF rs (rowJ ks rs n)):=⟨_,rfl⟩
 obtain⟨w,hw⟩:∃ w:SV,w=.own (rnK d ks rs n) ((rwF rs (rowJ ks rs n)).length+1) 1 (rwF rs (rowJ ks rs n)++[vI i]):=⟨_,rfl⟩
 refine W_headE (Sc:={(List.range 10).foldl (λS j=>S.put (some (Vbr d+j)) (rnVal d v w n i j)) (rnSt s ka la kd ld (rnSl i e n))with gn:=((rnSt s ka la kd ld (rnSl i e n)).next (rnK d ks rs n)).gn}) kx 10 9 ((rnSt s ka la kd ld (rnSl i e n)).next (rnK d ks rs n)).gn (rnVal d v w n i) (λj=>Vbr d+j) (by cases d <;>kernel_rfl) ?_ (λi j _ _ h=>Nat.add_left_cancel h) (λj hj=>by rw[hl4];omega) ?_ rfl rfl ?_ ?_ ?_
 ·intro j hj;refine⟨rnQ d j,rnQ_at d j kv,?_⟩;cases d
  all_goals
   match j,hj with
   |0,_=>exact⟨by kernel_rfl,by kernel_rfl⟩
   |1,_=>exact⟨by kernel_rfl,by kernel_rfl⟩
   |2,_=>exact⟨by kernel_rfl,by kernel_rfl⟩
   |3,_=>exact⟨by kernel_rfl,by kernel_rfl⟩
   |4,_=>exact⟨by kernel_rfl,by kernel_rfl⟩
   |5,_=>exact⟨by kernel_rfl,by kernel_rfl⟩
   |6,_=>exact⟨by kernel_rfl,by kernel_rfl⟩
   |7,_=>exact⟨by kernel_rfl,by kernel_rfl⟩
   |8,_=>exact⟨by kernel_rfl,by kernel_rfl⟩
   |9,_=>exact⟨by kernel_rfl,by kernel_rfl⟩
   |j+10,h=>exact absurd h kv
 ·intro j hj o ho S' hb hlen hdep hoth
  have hget:∀(t:Nat)(x:SV),t<10->(rnSt s ka la kd ld (rnSl i e n)).fr[t]? =some x->S'.ev (.tmp t)=x:=by
   intro t x h1 h2
   have:=hoth t (λj _=>by omega);simp only[St.ev,Zk,this,h2,Option.getD_some]
  have e3:S'.ev (.tmp 3)=.ptr 3 0:=hget 3 _ gj kx
  have e4:S'.ev (.tmp 4)=jI i:=hget 4 _ gj kx
  have e6:S'.ev (.tmp 6)=jI n:=hget 6 _ gj kx
  have hd:∀ k,k<10->(⟨k,.data⟩:Edge)∈o.after->S'.ev (.tmp (Vbr d+k))=rnVal d v w n i k:=by
   intro k h1 h2
   have:=hdep ⟨k,.data⟩ h2 rfl h1;simp only[St.ev,Zk,this,Option.getD_some]
  have b3:S'.bx.lookup 3=some rnC:=by rw[hb];kernel_rfl
  have hfa:o.op=.fieldAddr 146 (.tmp 3) (cond d 1 0)->Sound Tryz.prog o S' ⟨True,.ptr 3 (cond d 1 0),S'⟩:=by
   intro hop;refine Vau ?_;unfold Vb6;rw[hop];simp only[e3];cases d <;>kernel_rfl
  have hmv:∀ t x,o.op=.move (.tmp t)->S'.ev (.tmp t)=x->Sound Tryz.prog o S' ⟨True,x,S'⟩:=by
   intro t x hop hx;refine Vau ?_;unfold Vb6;rw[hop];simp only[hx]
  have hld:∀ t,o.op=.load 144 (.tmp t)->S'.ev (.tmp t)=.ptr 3 (cond d 1 0)->Sound Tryz.prog o S' ⟨True,.mp (cond d 8 7),S'⟩:=λt hop hx=>Vau (st_load hop hx kx b3 (by cases d <;>rfl))
  have ho':rnQ d j=o:=Zq ((rnQ_at d j kv).symm.trans ho);subst ho'
  match j,hj with
  |0,_=>exact⟨λ_=>hfa (by cases d <;>kernel_rfl),λh=>absurd h gj⟩
  |1,_=>exact⟨λ_=>hld (Vbr d+0) (by cases d <;>kernel_rfl) (hd 0 gj (Vkg (by cases d <;>kernel_rfl))),λh=>absurd h gj⟩
  |2,_=>exact⟨λ_=>hmv 6 _ (by cases d <;>kernel_rfl) e6,λh=>absurd h gj⟩
  |3,_=>exact⟨λ_=>hfa (by cases d <;>kernel_rfl),λh=>absurd h gj⟩
  |4,_=>exact⟨λ_=>hld (Vbr d+3) (by cases d <;>kernel_rfl) (hd 3 gj (Vkg (by cases d <;>kernel_rfl))),λh=>absurd h gj⟩
  |5,_=>exact⟨λ_=>hmv 6 _ (by cases d <;>kernel_rfl) e6,λh=>absurd h gj⟩
  |6,_=>
   have h4:=hd 4 gj (Vkg (by cases d <;>kernel_rfl))
   have h5:=hd 5 gj (Vkg (by cases d <;>kernel_rfl));refine⟨λ_=>?_,λh=>absurd h gj⟩
   show Sound Tryz.prog _ S' ⟨True,v,S'⟩;rw[hv];exact sound_row (t:=0) (b:=cond d 8 7) (bb:=cond d rnB2 5000) (x:=.tmp (Vbr d+4)) (i:=.tmp (Vbr d+5)) (by cases d <;>kernel_rfl) h4 h5 (by rw[hb,hks,hrs];cases d <;>kernel_rfl) hkr
  |7,_=>exact⟨λ_=>hmv 4 _ (by cases d <;>kernel_rfl) e4,λh=>absurd h gj⟩
  |8,_=>
   have h7:=hd 7 gj (Vkg (by cases d <;>kernel_rfl));refine⟨λ_=>?_,λh=>absurd h gj⟩;refine λ_=>Vau (r:=⟨Uni 1 [vI i],jL [vI i],S'⟩) ?_ (uniV i)
   unfold Vb6;rw[show(rnQ d 8).op=.buildSlice 36 1 #[(0,.tmp (Vbr d+7))] by cases d <;>kernel_rfl]
   have h1:(S'.ev (.tmp (Vbr d+7))).toAV=some (vI i):=by rw[h7];rfl
   simp only[Vbz,u36,i3,List.map_cons,List.map_nil,Vcw,h1];rw[if_pos ⟨rfl,by omega⟩]
  | 9,_=>
   have h6:=hd 6 gj (Vkg (by cases d <;>kernel_rfl))
   have h8:=hd 8 gj (Vkg (by cases d <;>kernel_rfl));refine⟨λh=>absurd rfl h,λ_ hgn=>?_⟩
   have h6:S'.ev (.tmp (Vbr d+6))=v:=h6
   have h8:S'.ev (.tmp (Vbr d+8))=jL [vI i]:=h8;rw[hv]at h6
   have hgk:S'.gen (rnK d ks rs n)=(rwF rs (rowJ ks rs n)).length:=by
    have hj:rowJ ks rs n<=rs.length:=by
     unfold rowJ;cases hp:Vbp ks n with
     |none=>simp
     |some k=>have:=Vg2 hp;simp;omega
    unfold St.gen;rw[hgn]
    show((rnG 3 la ld).lookup _).getD 0=_;rw[Vk6 _ _ _ kv];rw[hrs]at hj;subst hks hrs;cases d
    ·rw[if_pos ⟨rfl,Nat.le_add_right _ _,by simp only[rnK,rowK,cond_false]at hj ⊢;omega⟩];simp[rnK,rowK]
    ·rw[if_neg (by simp[rnK,rowK,rnB2]),if_pos ⟨rfl,Nat.le_add_right _ _⟩];simp[rnK,rowK,rnB2]
   have hs:=Vau (Vft (P:=Tryz.prog) (o:=rnQ d 9) (S:=S') (t:=36) (e:=3) (d:=Vbr d+9) (sz:=1) (bt:=8) (z:=.int .i64 0) (x:=.tmp (Vbr d+6)) (y:=.tmp (Vbr d+8)) (l':=[vI i]) (by cases d <;>kernel_rfl) (by cases d <;>kernel_rfl) h6 (by rw[h8];rfl) rfl u36 i3 rfl gj kx)
   have hst:S'.next (rnK d ks rs n)={S' with gn:=((rnSt s ka la kd ld (rnSl i e n)).next (rnK d ks rs n)).gn}:=by
    unfold St.next St.gen;rw[hgn]
   rw[hst]at hs
   show Sound Tryz.prog _ S' ⟨True,w,_⟩;rw[hw];exact λ_=>hs ⟨hgk,uniV i,by simp;omega⟩
  |j+10,h=>exact absurd h kv
 ·intro j hj
  match j,hj with
  |0,_=>cases d <;>rfl
  |1,_=>cases d <;>rfl
  |2,_=>cases d <;>rfl
  |3,_=>cases d <;>rfl
  |4,_=>cases d <;>rfl
  |5,_=>cases d <;>rfl
  |6,_=>cases d <;>rfl
  |7,_=>cases d <;>rfl
  |8,_=>cases d <;>rfl
  |9,_=>cases d <;>rfl
  |j+10,h=>exact absurd h kv
 ·intro t ht
  have hne:∀ j,j<10->¬ Vbr d+j=t:=λj hj e=>ht j hj e.symm
  simp only[List.range,List.range.loop,List.foldl_cons,List.foldl_nil,St.put];simp only[List.getElem?_set];rw[if_neg (hne 9 kv),if_neg (hne 8 kv),if_neg (hne 7 kv),if_neg (hne 6 kv),if_neg (hne 5 kv),if_neg (hne 4 kv),if_neg (hne 3 kv),if_neg (hne 2 kv),if_neg (hne 1 kv),if_neg (hne 0 kv)]
 ·rw[show(rnO d).size-10=0+1 by cases d <;>kernel_rfl];refine WA_one (i:=10) (o:=rnQ d 10) (by cases d <;>kernel_rfl) (rnQ_at d 10 gj) (by cases d <;>kernel_rfl) (Vgz (t:=144) (k:=3) (e:=36) (x:=.tmp (Vbr d+1)) (i:=.tmp (Vbr d+2)) (y:=.tmp (Vbr d+9)) (b:=cond d 8 7) (ks:=ks) (l:=Vdb (cond d rnB2 5000) 3 (rwF rs) rs.length) (s:=n) (v:=w) (by cases d <;>kernel_rfl) (by cases d <;>kernel_rfl) (by cases d <;>kernel_rfl) (by cases d <;>kernel_rfl) kx kx (by subst hks hrs;cases d <;>kernel_rfl)) trivial ?_;refine WA_nil (by cases d <;>kernel_rfl) ⟨rfl,?_⟩
  have hE:=rowAdd_rows hkr (cond d rnB2 5000) 3 n i;subst hw hks hrs;cases d
  ·refine WKg ?_ ?_
   ·simp only[cond_false]at hE;simp only[cond_false,rnBx,rnM];rw[<-hE]
    kernel_rfl
   ·intro κ;exact rnG_nextA (S:=rnSt s ka la kd ld (rnSl i e n)) (e:=3) rfl hka hla n i κ
  ·refine WKg ?_ ?_
   ·simp only[cond_true]at hE;simp only[cond_true,rnBx,rnM];rw[<-hE]
    kernel_rfl
   ·intro κ;exact rnG_nextD (S:=rnSt s ka la kd ld (rnSl i e n)) (e:=3) rfl hkd hla n i κ
structure Tks where
 ka:List Int
 la:List (List Int)
 kd:List Int
 ld:List (List Int)
def tkA(T:Tks)(n i:Int):Tks:={T with ka:=Vh8 T.ka n,la:=Vbq T.ka T.la n i}
def tkD(T:Tks)(n i:Int):Tks:={T with kd:=Vh8 T.kd n,ld:=Vbq T.kd T.ld n i}
def tkB(s:ByteArray)(e:Int):Bool:=cond (decide (e<((Zb s:Nat):Int))) (((byt s (Zi e):Nat):Int)==36) false
def rnsL(s:ByteArray):Nat->Int->Tks->Tks
 |0,_,T=>T
 |n+1,i,T=>cond (decide (i<((Zb s:Nat):Int))) (cond (((byt s (Zi i):Nat):Int) !=96) (rnsL s n (i+1) T) (rnsL s n (runE s i) (cond (tkB s (runE s i)) (tkD (tkA T (runE s i-i) i) (runE s i-i) i) (tkA T (runE s i-i) i)))) T
def rnsM(s:ByteArray):Tks:=rnsL s (s.size+1) 0 ⟨[],[],[],[]⟩
structure TkI (s:ByteArray) (ks:List Int) (ls:List (List Int)) (v:Nat):Prop where
 len:ks.length=ls.length
 num:ls.length<=v
 row:∀ l∈ls,l.length<=v/\∀ y∈l,0<=y/\y<s.size
theorem TkI.mono{s:ByteArray}{ks:List Int}{ls:List (List Int)}{v w:Nat}(h:TkI s ks ls v)(hw:v<=w):TkI s ks ls w:=⟨h.len,Nat.le_trans h.num hw,λl hl=>⟨Nat.le_trans (h.row l hl).1 hw,(h.row l hl).2⟩⟩
theorem TkI.add{s:ByteArray}{ks:List Int}{ls:List (List Int)}{v:Nat}(h:TkI s ks ls v)(n i:Int)(hi:0<=i/\i<s.size):TkI s (Vh8 ks n) (Vbq ks ls n i) (v+1):=by
 have hl:=Vi4 h.len n i
 have hn:=h.num
 have hlen:=h.len;refine⟨hl.symm,?_,λl hm=>?_⟩
 ·rw[hl];unfold Vh8;cases Vbp ks n <;>simp <;>omega
 ·unfold Vbq at hm;cases hp:Vbp ks n with
  |none=>
   rw[hp]at hm;rcases Zd.1 hm with hm|hm
   ·exact⟨Nat.le_succ_of_le (h.row l hm).1,(h.row l hm).2⟩
   ·simp only[Zm,Zh,or_false]at hm;subst hm;refine⟨by simp,λy hy=>?_⟩;simp only[Zm,Zh,or_false]at hy;subst hy;exact hi
  | some j=>
   rw[hp]at hm
   have hj:=Vg2 hp;rcases Zn hm with hm|rfl
   ·exact⟨Nat.le_succ_of_le (h.row l hm).1,(h.row l hm).2⟩
   ·have hq:ls.getD j []∈ls:=by
     rw[Zk,Zo kv];exact List.getElem_mem _
    have:=h.row _ hq;refine⟨by rw[Ze,Zs];omega,λy hy=>?_⟩;rcases Zd.1 hy with hy|hy
    ·exact this.2 y hy
    ·simp only[Zm,Zh,or_false]at hy;subst hy;exact hi
theorem TkI.ok{s:ByteArray}{ks:List Int}{ls:List (List Int)}(h:TkI s ks ls s.size):TkOk s ls:=h.row
theorem TkI.rw_le{s:ByteArray}{ks:List Int}{ls:List (List Int)}{v:Nat}(h:TkI s ks ls v)(j:Nat):(rwF ls j).length<=v:=by
 unfold rwF;rw[Zr,Zk];cases hj:ls[j]? with
 |none=>simp
 |some l=>exact(h.row l (List.mem_of_getElem? hj)).1
theorem rowsA_tk(ls:List (List Int)):rowsA (rwF ls) ls.length=tkV ls:=by
 apply List.ext_getElem?;intro j;simp only[rowsA,tkV,List.getElem?_map]
 by_cases h:j<ls.length
 ·rw[List.getElem?_range h,Zo h];simp[rwF,h]
 ·rw[List.getElem?_eq_none (by simp;omega),List.getElem?_eq_none kv];rfl
theorem tk_frz(b:Nat)(ls:List (List Int))(G:Gh)(w:World)(us:List Value)(h:RepSs G w (Vdb b 3 (rwF ls) ls.length) us):RepL G.U w (tkV ls) us:=by
 rw[<-rowsA_tk];exact rowsS_rep h
theorem tk_frz2(b:Nat)(ls:List (List Int))(G:Gh)(w:World)(us:List Value)(h:RepSs G w ((Vdb b 3 (rwF ls) ls.length).map (SV.forget 7)) us):RepL G.U w (tkV ls) us:=by
 refine tk_frz b ls G w us ?_;rwa[show(Vdb b 3 (rwF ls) ls.length).map (SV.forget 7)=Vdb b 3 (rwF ls) ls.length by simp only[Vdb,List.map_map];rfl]at h
def TkJ(s:ByteArray)(T:Tks)(v:Nat):Prop:=TkI s T.ka T.la v/\TkI s T.kd T.ld v
theorem tkS_ok{s:ByteArray}{T:Tks}{v:Nat}(h:TkJ s T v)(h1:v<s.size)(b:Bool)(n:Int):TkJ s (cond b (tkD (tkA T n ((v:Nat):Int)) n ((v:Nat):Int)) (tkA T n ((v:Nat):Int))) (v+1):=by
 have h2:0<=((v:Nat):Int)/\((v:Nat):Int)<s.size:=⟨by omega,by omega⟩
 cases b
 ·exact⟨h.1.add n _ h2,h.2.mono (Nat.le_succ _)⟩
 ·exact⟨h.1.add n _ h2,h.2.add n _ h2⟩
theorem runE_nat(s:ByteArray)(v:Nat)(h:v<s.size):∃ e:Nat,runE s ((v:Nat):Int)=((e:Nat):Int)/\v+1<=e/\e<=s.size:=by
 have h1:=Vi3 s ((v:Nat):Int) kv kv
 have h2:=Veo s ((v:Nat):Int) kv;exact⟨(runE s ((v:Nat):Int)).toNat,by omega,by omega,by omega⟩
theorem rnsL_ok(s:ByteArray):∀(n v:Nat)(T:Tks),v<=s.size->TkJ s T v->TkJ s (rnsL s n ((v:Nat):Int) T) s.size
 |0,v,T,h1,h2=>⟨h2.1.mono h1,h2.2.mono h1⟩
 | n+1,v,T,h1,h2=>by
  unfold rnsL
  by_cases h:v<s.size
  ·rw[decide_eq_true kv,cond_true];cases(((byt s (Zi ((v:Nat):Int)):Nat):Int) !=96)with
   |true=>exact rnsL_ok s n (v+1) T h ⟨h2.1.mono (Nat.le_succ _),h2.2.mono (Nat.le_succ _)⟩
   |false=>
    obtain⟨e,e1,e2,e3⟩:=runE_nat s v h;rw[cond_false,e1]
    have:=tkS_ok h2 h (tkB s ((e:Nat):Int)) (((e:Nat):Int)-((v:Nat):Int));exact rnsL_ok s n e _ e3 ⟨this.1.mono e2,this.2.mono e2⟩
  ·rw[decide_eq_false kv,cond_false];exact⟨h2.1.mono h1,h2.2.mono h1⟩
theorem tkJ0(s:ByteArray):TkJ s ⟨[],[],[],[]⟩ 0:=⟨⟨rfl,Nat.le_refl _,λl h=>by cases h⟩,⟨rfl,Nat.le_refl _,λl h=>by cases h⟩⟩
theorem rnsM_ok(s:ByteArray):TkOk s (rnsM s).la/\TkOk s (rnsM s).ld:=by
 have:=rnsL_ok s (s.size+1) 0 _ (Nat.zero_le _) (tkJ0 s);exact⟨this.1.ok,this.2.ok⟩
def rnX(s:ByteArray)(T:Tks)(sl:List (Nat×SV)):St:=rnSt s T.ka T.la T.kd T.ld sl
def rnR(T:Tks):SV:=.av (.agg [.im T.ka (tkV T.la),.im T.kd (tkV T.ld)])
theorem rnsG_to(s:ByteArray)(hs:s.size<=1073741824):RnsTo s (rnsM s).ka (rnsM s).la (rnsM s).kd (rnsM s).ld:=by
 refine BEG (λ_:Unit=>rnR (rnsM s)) () Tryz.func88 kx ?_;refine gO (kq 1 (tn 1 z)) ?_;refine NXW (rnSt s [] [] [] [] []) (tn 1 z) kx ?_ kx ?_
 ·exact Vai (S':=Sr0 s) (WK kx) (Val (c':=.region 1 (Va7 1 Tryz.f88) false) kx (rn1G s))
 refine LP (λN M S=>∃(v:Nat)(T:Tks),(s.size<N+v)/\v<=s.size/\TkJ s T v/\rnsL s N ((v:Nat):Int) T=rnsM s/\M=()/\S=rnX s T [(4,jI ((v:Nat):Int))]) kx (n:=s.size+1) ⟨0,⟨[],[],[],[]⟩,by omega,by omega,tkJ0 s,rfl,rfl,rfl⟩ (WK kx) ?_;rintro n0 M S ⟨v,T,hF0,hv,hT,hm,rfl,rfl⟩;obtain⟨n0,rfl⟩:∃ k,n0=k+1:=⟨n0-1,by omega⟩
 unfold rnsL at hm
 by_cases h1:v<s.size
 ·have hd:decide (((v:Nat):Int)<((Zb s:Nat):Int))=true:=decide_eq_true kv;rw[hd,cond_true]at hm;cases hb:(((byt s (Zi ((v:Nat):Int)):Nat):Int) !=96)with
  |true=>
   rw[hb,cond_true]at hm;refine gO (tn 4 (kb hd (tn 2 (kp (ib s ((v:Nat):Int) kv) (tn 1 (kb hb (tn 1 (kn (wrE (((v:Nat):Int)+1) ((v+1:Nat):Int) kv) (tn 1 z))))))))) ?_;exact AG (m:=n0) ⟨v+1,T,by omega,by omega,⟨hT.1.mono (Nat.le_succ _),hT.2.mono (Nat.le_succ _)⟩,hm,rfl,rfl⟩ (WK kx) kx (Za _)
  | false=>
   obtain⟨e,e1,e2,e3⟩:=runE_nat s v h1
   have hE:=Vk4 s ((v:Nat):Int) hs kv kv;rw[hb,cond_false,e1]at hm;rw[e1]at hE;obtain⟨n,hn⟩:∃ n:Int,n=((e:Nat):Int)-((v:Nat):Int):=⟨_,rfl⟩
   have hw:IntKind.i64.wrap (((e:Nat):Int)-((v:Nat):Int))=n:=wrE _ _ kv;rw[<-hn]at hm
   have hT1:=tkS_ok hT h1 false n
   have hT2:=tkS_ok hT h1 (tkB s ((e:Nat):Int)) n;refine gO (tn 4 (kb hd (tn 2 (kp (ib s ((v:Nat):Int) kv) (tn 1 (kb hb (tn 2 (kc hE (tn 3 (kn hw (tn 1 z))))))))))) ?_;cases hk:tkB s ((e:Nat):Int)with
   |true=>
    rw[hk,cond_true]at hm hT2;refine NXW (rnX s (tkA T n ((v:Nat):Int)) (rnSl ((v:Nat):Int) ((e:Nat):Int) n)) (tn 5 (kj (decide (((e:Nat):Int)<((Zb s:Nat):Int))) (tn 2 (hp (λh=>ib s ((e:Nat):Int) (by have j:=of_decide_eq_true h.2;omega)) (tn 1 z))) z (kb hk z))) kx ?_ kx ?_
    ·refine Vai (S':=rnX s T (rnSl ((v:Nat):Int) ((e:Nat):Int) n)) (WK kx) ?_;exact Val (c':=.region 8 (rnO false) true) kx (rn8 false s T.ka T.la T.kd T.ld ((v:Nat):Int) ((e:Nat):Int) n hT.1.len hT.2.len (by have:=hT.1.num;omega) (by have:=hT.1.rw_le (rowJ T.ka T.la n);simp only[cond_false];omega))
    refine NXW (rnX s (tkD (tkA T n ((v:Nat):Int)) n ((v:Nat):Int)) (rnSl ((v:Nat):Int) ((e:Nat):Int) n)) (tn 2 z) kx ?_ kx ?_
    ·refine Vai (S':=rnX s (tkA T n ((v:Nat):Int)) (rnSl ((v:Nat):Int) ((e:Nat):Int) n)) (WK kx) ?_;exact Val (c':=.region 10 (rnO true) true) kx (rn8 true s (tkA T n ((v:Nat):Int)).ka (tkA T n ((v:Nat):Int)).la T.kd T.ld ((v:Nat):Int) ((e:Nat):Int) n hT1.1.len hT.2.len (by have:=hT1.1.num;simp only[cond_false]at this;omega) (by have:=hT.2.rw_le (rowJ T.kd T.ld n);simp only[cond_true];omega))
    exact AG (m:=n0) ⟨e,_,by omega,e3,⟨hT2.1.mono e2,hT2.2.mono e2⟩,hm,rfl,rfl⟩ (WK kx) kx (Za _)
   |false=>
    rw[hk,cond_false]at hm hT2;refine NXW (rnX s (tkA T n ((v:Nat):Int)) (rnSl ((v:Nat):Int) ((e:Nat):Int) n)) (tn 5 (kj (decide (((e:Nat):Int)<((Zb s:Nat):Int))) (tn 2 (hp (λh=>ib s ((e:Nat):Int) (by have j:=of_decide_eq_true h.2;omega)) (tn 1 z))) z (kb hk (tn 2 z)))) kx ?_ kx ?_
    ·refine Vai (S':=rnX s T (rnSl ((v:Nat):Int) ((e:Nat):Int) n)) (WK kx) ?_;exact Val (c':=.region 8 (rnO false) true) kx (rn8 false s T.ka T.la T.kd T.ld ((v:Nat):Int) ((e:Nat):Int) n hT.1.len hT.2.len (by have:=hT.1.num;omega) (by have:=hT.1.rw_le (rowJ T.ka T.la n);simp only[cond_false];omega))
    exact AG (m:=n0) ⟨e,_,by omega,e3,⟨hT2.1.mono e2,hT2.2.mono e2⟩,hm,rfl,rfl⟩ (WK kx) kx (Za _)
 ·have hd:decide (((v:Nat):Int)<((Zb s:Nat):Int))=false:=decide_eq_false kv;rw[hd,cond_false]at hm;rw[<-hm];refine gO (tn 4 (kb hd z)) ?_;refine OUT (kq 12 z) kx ?_;refine Voc (Vfl (c:=3) (k:=0) (id:=7) (ks:=T.ka) (l:=Vdb 5000 3 (rwF T.la) T.la.length) (vs:=tkV T.la) kx gj kx (tk_frz 5000 T.la)) ?_;refine Voc (Vfl (c:=3) (k:=1) (id:=8) (ks:=T.kd) (l:=(Vdb rnB2 3 (rwF T.ld) T.ld.length).map (SV.forget 7)) (vs:=tkV T.ld) kx gj kx (tk_frz2 rnB2 T.ld)) ?_;refine gO (tn 2 z) ?_;exact EN kx
def rdC(s:ByteArray)(n m:Nat)(refs:Int):ABox:=.cells 52 [jS s,.vs 2001 n,.vs 2002 m,jI refs]
def elB(els:List DElem):ABox:=.vec 107 21 (els.map Vb3)
def brB(brs:List Int):ABox:=.vec 3 1 (brs.map vI)
def rdB(s:ByteArray)(els:List DElem)(brs:List Int)(refs:Int):List (Nat×ABox):=[(1000,rdC s els.length brs.length refs),(2001,elB els),(2002,brB brs)]
def inE(x:DInline):DElem:=DElem.mk 0 (DPiece.mk 0 x ⟨#[]⟩ 0 false false false 0 0) false 0
def refB(k:Int):Bool:=cond (k==9) (k==9) (cond (k==16) (k==16) (cond (k==12) (k==12) (cond (k==14) (k==14) (k==13))))
def kRef(k:Int){H:Prop}(r:OCx H):OCx H:=ks (k==9) [6] z (tn 2 (ks (k==16) [6] z (tn 2 (ks (k==12) [6] z (tn 2 (ks (k==14) [6] z (tn 2 z) z)) z)) z)) r
def adS(s:ByteArray)(els:List DElem)(brs:List Int)(refs:Int)(x:DInline):St:=sx 31 [(0,.ptr 1000 0),(3,.ptr 3 0)] ((3,.cells 42 (Vgl x))::rdB s els brs refs) []
def cBnd(n b sz:Nat)(l:List AV)(x:AV):Prop:=n<=l.length/\Uni sz [x]/\(n+([x]:List AV).length)*b<=140737488355328
theorem uni1{sz:Nat}{x:AV}(h:x.cells.length=sz)(ht:x.isTup=false):Uni sz [x]:=by
 intro y hy;simp only[Zm,Zh,or_false]at hy;subst hy;exact⟨h,ht⟩
theorem rdB_snoc(s:ByteArray)(els:List DElem)(brs:List Int)(refs:Int)(e:DElem):[(1000,rdC s (els.length+1) brs.length refs),(2001,ABox.vec 107 21 ((els.map Vb3).take els.length++[Vb3 e])),(2002,brB brs)]=rdB s (els++[e]) brs refs:=by
 simp[rdB,elB,Zg]
theorem ad8(s:ByteArray)(els:List DElem)(brs:List Int)(refs:Int)(x:DInline)(he:els.length<=1073741824):W Tryz.prog (.region 8 (Va7 8 Tryz.f92) true) (λe S1=>e=.normal/\Weak S1 (sx 31 [] (rdB s (els++[inE x]) brs refs) [])) (adS s els brs refs x):=by
 have hu:Uni 21 [Vb3 (inE x)]:=uni1 rfl rfl
 have hC:cBnd els.length 272 21 (els.map Vb3) (Vb3 (inE x)):=⟨by simp,hu,by simp;omega⟩
 rw[<-rdB_snoc];exact Vgt (cs:=[True,True,True,True,True,True,True,True,Uni 21 [Vb3 (inE x)],cBnd els.length 272 21 (els.map Vb3) (Vb3 (inE x)),cBnd els.length 272 21 (els.map Vb3) (Vb3 (inE x)),True,True,True,True]) 9 kx kx 31 [] _ [] ⟨trivial,trivial,trivial,trivial,trivial,trivial,trivial,trivial,hu,hC,hC,trivial,trivial,trivial,trivial,trivial⟩ kx kx
theorem add_to(s:ByteArray)(els:List DElem)(brs:List Int)(refs:Int)(x:DInline)(he:els.length<=1073741824)(hr:0<=refs/\refs<=1073741824):
  Va2 Tryz.prog 92 [.ptr 1000 0,.av (Vap x)] (rdB s els brs refs) [] Vas (rdB s (els++[inE x]) brs (cond (refB x.fKind) (refs+1) refs)) []:=by
 cases hb:refB x.fKind with
 |true=>
  refine bGs Tryz.func92 ?_;refine gO (tn 5 (kRef x.fKind (kb hb (tn 4 (kn (wrE (refs+1) (refs+1) kv) (tn 3 z)))))) ?_;refine NXW (sx 31 [] (rdB s (els++[inE x]) brs (refs+1)) []) z kx ?_ kx ?_
  ·refine Vai (S':=adS s els brs (refs+1) x) (WK kx) ?_;exact Val (c':=.region 8 (Va7 8 Tryz.f92) true) kx (ad8 s els brs (refs+1) x he)
  exact eNs
 |false=>
  refine bGs Tryz.func92 ?_;refine gO (tn 5 (kRef x.fKind (kb hb z))) ?_;refine NXW (sx 31 [] (rdB s (els++[inE x]) brs refs) []) z kx ?_ kx ?_
  ·refine Vai (S':=adS s els brs refs x) (WK kx) ?_;exact Val (c':=.region 8 (Va7 8 Tryz.f92) true) kx (ad8 s els brs refs x he)
  exact eNs
end Go.Proofs.YthbpjmogdonlkaaGreatDoor
namespace Go.Proofs.YthbpjmogdonlkaaGreatDoor
open Go Go.Eng Go.RowKit
def glP:Nat×ABox:=(1999,.gl 3 (Lib.pow10Tab.map (λx=>Value.int .u64 x)))
theorem lays171M:LaysM.n171 Tryz.prog Tryz.lays171_ren:={Tryz.lays171 with
 i0:=by kernel_rfl
 i2:=by kernel_rfl
 i3:=by kernel_rfl
 i4:=by kernel_rfl
 i5:=by kernel_rfl
 i9:=by kernel_rfl
 i20:=by kernel_rfl
 i37:=by kernel_rfl
 i46:=by kernel_rfl
 i51:=by kernel_rfl
 i53:=by kernel_rfl
 i171:=by kernel_rfl
 i173:=by kernel_rfl
 i212:=by kernel_rfl
 i232:=by kernel_rfl
 i233:=by kernel_rfl
 m17:=by kernel_rfl
 m18:=by kernel_rfl
 m19:=by kernel_rfl}
theorem itoaG_to(k:Nat)(h:k<2048):Va2 Tryz.prog 93 [jI ((k:Nat):Int)] [glP] [] (jS (itoa k)) [glP] []:=by
 refine⟨⟨Tryz.f93,Tryz.func93,by kernel_rfl,by kernel_rfl⟩,λG w us hw hr hbx _=>?_⟩;rw[argsI hr];obtain⟨e,mm,ho,hh⟩:=hbx glP ku;refine(Any.strconv_Itoa lays171M ((k:Nat):Int) kv kv w ?_).mono ?_
 ·unfold Lib.TabIs World.var?;rw[lays171M.m17,show Tryz.lays171_ren.g 17=3 from rfl];simp only[Option.bind_some,hh]
 rintro e w' ⟨rfl,n,os,hb⟩
 have hb2:Below w.heap.size w w':=by rw[hb];exact Lib.below_grow _ _ (Nat.le_refl _) _ _
 obtain⟨s1,s2,s3⟩:=Vc0 hw hb2;refine⟨_,G,rfl,s1,s2,⟨by rw[Lib.itoa_nonneg];rfl,rfl⟩,λp hp=>?_,λi _=>s3 _,λ_ _=>rfl,λκ=>rfl⟩;exact(hbx p hp).persist s1.toExt (s3 _) (λ_ _=>rfl)
theorem uniP(x:DPiece):Uni 18 [Vbo x]:=uni1 rfl rfl
def pcZ:Value:=.agg #[.int .i64 0,.int .i64 0,.string ⟨#[]⟩,.string ⟨#[]⟩,.string ⟨#[]⟩,.string ⟨#[]⟩,.slice none 0 0,.slice none 0 0,.slice none 0 0,.slice none 0 0,.slice none 0 0,.string ⟨#[]⟩,.int .i64 0,.bool false,.bool false,.bool false,.int .i64 0,.int .i64 0]
theorem pc_box(n:Nat)(id:Nat)(G:Gh)(w:World)(blk:Nat)(hb:blk<w.heap.size)(ho:G.ow (id,0)=some blk)(hw:w.heap[blk]? =some (.cells (madeCells pcZ.cells (n*18)) 68 (0,0)))(hU:G.U blk=0)(hc:G.cp blk=n):RepB G w id (.vec 68 18 []):=by
 refine .inr ⟨blk,_,[],hb,ho,hw,hU,?_,rfl,by simp,⟨_,rfl⟩,by simp[Va1]⟩;rw[hc,size_madeCells];exact Nat.le_refl _
def nzB(els:List DElem):List (Nat×ABox):=[(1001,.vec 107 21 (els.map Vb3)),glP]
def nz1(els:List DElem)(o m:Nat):St:=sx 45 [(0,.vw 1001 21 o m),(3,.vs 10 0)] ((10,.vec 68 18 [])::nzB els) []
def nzS(els:List DElem)(o m v:Nat)(os:List AV):St:=sx 45 [(0,.vw 1001 21 o m),(3,.vs 10 v),(11,.vw 1001 21 o m),(12,jI ((m:Nat):Int)),(13,jI ((v:Nat):Int))] ((10,.vec 68 18 os)::nzB els) []
def nzT(els:List DElem)(o m:Nat):St:=sx 45 [(0,.vw 1001 21 o m),(3,jL ((pcsG els o m).map Vb4))] (nzB els) []
theorem nz1_w(els:List DElem)(o m:Nat)(hm:m<=536870912):W Tryz.prog (.region 1 (Va7 1 Tryz.f57) false) (λe S1=>e=.normal/\Weak S1 (nz1 els o m)) (sx 45 [(0,.vw 1001 21 o m)] (nzB els) []):=by
 refine Van ?_;rw[show(Va7 1 Tryz.f57).toList=[regO 1 Tryz.f57 0,regO 1 Tryz.f57 1,regO 1 Tryz.f57 2,regO 1 Tryz.f57 3] by kernel_rfl];refine Var (.vw 1001 21 o m) 8 kx kx ?_;refine Var (jI ((m:Nat):Int)) 9 kx kx ?_;refine Vc5 (.vs 10 0) 10 kx (Vh0 (x:=.const (.int .i64 0)) (y:=.tmp 9) (t:=62) (e:=68) (sz:=18) (bt:=248) (z:=pcZ) (m:=0) (n:=m) (id:=10) (k:=.i64) (k':=.i64) (X:=.vec 68 18 []) kx kx kx kv kx kx kv kv gj kx (λG w blk h1 h2 h3 h4 h5=>pc_box m 10 G w blk h1 h2 h3 h4 h5)) ?_;refine Var (.vs 10 0) 3 kx kx ?_;exact Vbk rfl ⟨rfl,WK kx⟩
def sqL:Code->Code
 | .seq a _=>a
 |c=>c
def sqR:Code->Code
 | .seq _ b=>b
 |c=>c
noncomputable def nzX:Code:=sqL (sqR (sqR (Vbc Tryz.f57)))
theorem nzX_w(els:List DElem)(o m:Nat)(hm:o+m<=els.length)(he:els.length<=536870912)(hk:m<=2048):W Tryz.prog nzX (λe S1=>e=.normal/\Weak S1 (nzT els o m)) (nz1 els o m):=by
 refine WN ?_;refine gO (tn 3 z) ?_;refine LP (n:=m+1) (λN M S=>∃(v:Nat)(os:List AV),v<=m/\os=(pcsG els o v).map Vb4/\m-v<N/\M=()/\S=nzS els o m v os) kx ⟨0,[],by omega,rfl,by omega,rfl,rfl⟩ (WK kx) ?_;rintro n0 M S ⟨v,os,hv,hos,hF0,rfl,rfl⟩;obtain⟨n0,rfl⟩:∃ k,n0=k+1:=⟨n0-1,by omega⟩
 have hol:os.length=v:=by rw[hos,Zr,Vjd]
 by_cases h1:v<m
 ·have hd:decide (((v:Nat):Int)<((m:Nat):Int))=true:=dT kv
  have hi:0<=((v:Nat):Int)/\((v:Nat):Int)<((m:Nat):Int):=⟨by omega,by omega⟩
  have hee:=Vhg els ((o+v:Nat):Int) kv kv
  have hwr:=wrE (((v:Nat):Int)+1) ((v+1:Nat):Int) kv
  have hb0:cond (((el els (o+v)).fkind:Int)==0) (decide ((((el els (o+v)).fpiece.fInline.fKids.map Va3).length:Int)>0)) false=isPh (el els (o+v)):=by unfold isPh;rw[Zr]
  cases hp:isPh (el els (o+v))with
  |false=>
   have hb:=hb0.trans hp
   have hpc:pcG v (el els (o+v))=(el els (o+v)).fpiece:=by unfold pcG;rw[hp];rfl
   have hap:v<=os.length/\Uni 18 [Vbo (el els (o+v)).fpiece]/\(v+([Vbo (el els (o+v)).fpiece]:List AV).length)*248<=140737488355328:=⟨by omega,uniP _,by simp;omega⟩
   refine gO (tn 1 (kb hd (tn 1 (kp hi (ke hee (tn 7 (tn 4 (kj (((el els (o+v)).fkind:Int)==0) (tn 5 z) z (kb hb (tn 2 (kp (uniP (el els (o+v)).fpiece) (kp hap (tn 1 (kn hwr (tn 1 z))))))))))))))) ?_;refine AG (m:=n0) (S'':=nzS els o m (v+1) (os.take v++[Vbo (el els (o+v)).fpiece])) ⟨v+1,_,by omega,?_,by omega,rfl,rfl⟩ (WK kx) kx (Za _);rw[Vp6,hpc,List.map_append, <-hos,Zg kv];rw[List.map_singleton,Vql];rfl
  |true=>
   have hb:=hb0.trans hp
   have hpc:pcG v (el els (o+v))=pIn (el els (o+v)).fpiece (phI v):=by unfold pcG;rw[hp];rfl
   have hit:=itoaG_to v kv
   have hap:v<=os.length/\Uni 18 [Vbo (pIn (el els (o+v)).fpiece (phI v))]/\(v+([Vbo (pIn (el els (o+v)).fpiece (phI v))]:List AV).length)*248<=140737488355328:=⟨by omega,uniP _,by simp;omega⟩
   refine gO (tn 1 (kb hd (tn 1 (kp hi (ke hee (tn 7 (tn 4 (kj (((el els (o+v)).fkind:Int)==0) (tn 5 z) z (kb hb (tn 1 (kg hit trivial (tn 3 (tn 2 (kp (uniP (pIn (el els (o+v)).fpiece (phI v))) (kp hap (tn 1 (kn hwr (tn 1 z)))))))))))))))))) ?_;refine AG (m:=n0) (S'':=nzS els o m (v+1) (os.take v++[Vbo (pIn (el els (o+v)).fpiece (phI v))])) ⟨v+1,_,by omega,?_,by omega,rfl,rfl⟩ (WK kx) kx (Za _);rw[Vp6,hpc,List.map_append, <-hos,Zg kv];rw[List.map_singleton,Vql];rfl
 ·have hd:decide (((v:Nat):Int)<((m:Nat):Int))=false:=dF kv
  have hvm:v=m:=by omega
  subst hvm;refine FRZ 3 10 (n:=v) (l:=os) (l':=(pcsG els o v).map Vb4) kx kv (by rw[<-hos,Zg kv]) ?_;refine gO (tn 1 (kb hd z)) ?_;refine OUT z kx ?_;exact LEAF .normal kx (S2:=nzT els o v) (WK kx) ⟨rfl,λ_ _ _ h=>h⟩
end Go.Proofs.YthbpjmogdonlkaaGreatDoor
namespace Go.Proofs.YthbpjmogdonlkaaGreatDoor
open Go Go.Eng Go.RowKit Go.Shelf
section
variable {P:Program} {ops:Array Oper} {Q:Exit->Act->World->Prop} {a:Act} {w:World} {rest:List Oper} {o:Oper}
theorem wl_mv{x:Operand}(v:Value)(ho:o.op=.move x\/o.op=.assign x)(hg:o.guard=none)(hv:a.eval x=v)(h:wpList P ops Q rest (a.put o.dst v) w):wpList P ops Q (o::rest) a w:=by
 have he:(execOp a.eval o).run P w=.ok (.value v) w:=by rcases ho with ho|ho <;>simp[execOp,ho,hv]
 simp only[wpList];rw[if_pos (Vao hg a)];refine .inl ?_;unfold Oper.wp;rw[he,Oper.upon_value];exact h
theorem wl_call{f:FuncId}{args:Array Operand}{tys:Array TypeId}(vs:Array Value)(ho:o.op=.call {callee:=.value (.func f),args:=args,argTypes:=tys})(hg:o.guard=none)(hf:Vhs P f)(hv:(args.toList.map a.eval).toArray=vs)
  (hc:Calls P f vs w λe w'=>∃ v,e=.returned v/\wpList P ops Q rest (a.put o.dst v) w'):wpList P ops Q (o::rest) a w:=by
 obtain⟨fn,hf1,hf2,hf3⟩:=hf
 have hrun:(execOp a.eval o).run P w=.ok (.enter f vs) w:=by
  have hnone:fn.body.isNone=false:=by cases hb:fn.body <;>simp_all
  have hev:a.eval (.func f)=.func (.func f) #[] #[]:=rfl;simp only[execOp,ho,resolve,hev,Deferred.ofValue,Sem.run_bind,Sem.run_pure,Result.andThen_ok,invoke,callFunc,run_program,hf1];rw[if_neg (by rw[hf3];simp)];simp only[hnone,Bool.false_eq_true,if_false,Sem.run_pure];congr 2;rw[<-hv];apply Array.ext';simp
 simp only[wpList];rw[if_pos (Vao hg a)];refine .inl ?_;unfold Oper.wp;rw[hrun,Oper.upon_enter];refine hc.mono ?_;rintro e w' ⟨v,rfl,h⟩;exact h
end
theorem Vk9{a:Act}{d:Nat}{v:Value}(h:d<a.tmps.size):(a.put (some d) v).eval (.tmp d)=v:=by
 simp[Act.put,Act.eval,Array.getD_eq_getD_getElem?,h]
theorem Vit{a:Act}{d t:Nat}{v:Value}(h:d≠t):(a.put (some d) v).eval (.tmp t)=a.eval (.tmp t):=by
 simp[Act.put,Act.eval,Array.getD_eq_getD_getElem?,Array.getElem?_setIfInBounds,h]
theorem Ve8{a:Act}{d:Option Tmp}{v:Value}:(a.put d v).tmps.size=a.tmps.size:=by cases d <;>simp[Act.put]
theorem step_fresh{G:Gh}{w w':World}{U':Nat->Nat}(hw:Wf G w)(hB:Below w.heap.size w w')(h1:∀ b,G.U b<=U' b)(h2:∀ b,b<w.heap.size->U' b=G.U b)(h3:∀ b,w'.heap.size<=b->U' b=0):
  Step G w {G with U:=U'} w'/\Wf {G with U:=U'} w'/\∀ κ,Keep G w {G with U:=U'} w' κ:=by
 obtain⟨s1,s2,s3⟩:=Vc0 hw hB
 have hk:∀ κ,Keep G w {G with U:=U'} w' κ:=λκ=>⟨rfl,λb hb=>⟨hB.block b (hw.lt κ b hb),h2 b (hw.lt κ b hb)⟩⟩
 exact⟨⟨⟨h1,s1.toExt.imm,s1.toExt.size,s1.toExt.os,s1.toExt.tape,s1.toExt.output,λ_ _=>rfl,λ_=>Nat.le_refl _,λκ _ _=>hk κ⟩,λb hb _=>⟨hB.block b hb,h2 b hb⟩,λκ b hb=>.inl ⟨κ,hb⟩⟩,⟨s2.inj,s2.lt,h3⟩,hk⟩
def gh0(G:Gh):Gh:={U:=G.U,cp:=G.cp,ow:=λ_=>none,gen:=λ_=>0,df:=[]}
theorem gh0_wf{G:Gh}{w w':World}(hw:Wf G w)(hs:w.heap.size<=w'.heap.size):Wf (gh0 G) w':=⟨λκ κ' b h1 _=>by simp[gh0]at h1,λκ b h1=>by simp[gh0]at h1,λb hb=>hw.zero b kv⟩
theorem Vpt{G G':Gh}{w w':World}(h:Step (gh0 G) w G' w'):Below w.heap.size w w'/\∀ b,b<w.heap.size->G'.U b=G.U b:=
 ⟨⟨h.toExt.os,h.toExt.tp,h.toExt.output,h.toExt.size,λb hb=>(h.stay b hb (λκ h=>by simp[gh0]at h)).1⟩,λb hb=>(h.stay b hb (λκ h=>by simp[gh0]at h)).2⟩
theorem Vpn{G:Gh}{w w':World}(hw:Wf G w)(h:Below w.heap.size w w'):Imm G.U w w':=Vkn λb hb=>h.block b (by
 rcases Nat.lt_or_ge b w.heap.size with q|q
 ·exact q
 ·rw[hw.zero b q]at hb;omega)
theorem vok_of{G:Gh}{w:World}(hw:Wf G w){m:Nat}{V:Nat->List Value}{ue:Value}{k:Nat}{x:DInline}(hl:(V k).length=10)(hr:Rep G.U w (Va3 x) (.agg (V k).toArray))(hc:ClnI x)(hx:Va4 x<=1073741824):VOk w.heap.size w V ue k:=by
 obtain⟨u0,u1,u2,u3,u4,u5,u6,u7,u8,u9,hv⟩:=list10 hl
 have hr0:=hr;rw[Vc3]at hr;simp only[Rep]at hr;obtain⟨vs,ev,r1,r2⟩:=hr
 have e2:vs.toList=V k:=by
  simp only[Value.agg.injEq]at ev;rw[<-ev]
 rw[e2,hv]at r1;obtain⟨x0,l0,f0,q0,x1,l1,f1,q1,x2,l2,f2,q2,x3,l3,f3,q3,x4,l4,f4,q4,x5,l5,f5,q5,x6,l6,f6,q6,x7,l7,f7,q7,x8,l8,f8,q8,x9,l9,f9,q9,f10⟩:=r1;cases f0;cases f1;cases f2;cases f3;cases f4;cases f5;cases f6;cases f7;cases f8;cases f9
 have hcx:=Vaj.1 hc;refine⟨hl,λy hy=>r2 y (by rw[e2];exact hy),⟨x.fKind,by rw[hv];exact congrArg some q0.1,hcx.1⟩,u9,by rw[hv];rfl,λW hB=>?_⟩
 have hk:=rstC_to (SizeOf.sizeOf x.fKids+1) x.fKids (Za _) hcx.2 (by have:=Vjm (x:=x);omega)
 have hcall:=hk.2 (gh0 G) W [u9,ue] (gh0_wf hw hB.size) ⟨u9,[ue],rfl,Rep.mono (λ_=>Nat.le_refl _) (Vpn hw hB) _ _ q9,ue,[],rfl,trivial,rfl⟩ ku ku;refine hcall.mono ?_;rintro e W' ⟨v,G',rfl,s1,s2,s3, -⟩;obtain⟨us,rfl,h4⟩:=s3
 have h5:us=#[]:=Array.toList_inj.1 h4;subst h5;exact⟨rfl,(Vpt s1).1⟩
theorem els_V{G:Gh}{w:World}(hw:Wf G w){els:List DElem}{o m:Nat}(hb:RepB G w 1001 (.vec 107 21 (els.map Vb3))){ue:Value}(hu:RepS G w (.vw 1001 21 o m) ue)(hm:o+m<=els.length)(hc:∀ k,k<m->ClnI (VE els o k)/\Va4 (VE els o k)<=1073741824):
  ∃V:Nat->List Value,ElL w.heap.size m w V ue/\∀ k,k<m->(V k).length=10/\Rep G.U w (Va3 (VE els o k)) (.agg (V k).toArray):=by
 obtain⟨a,cap,rfl,hcap,hblk⟩:=hu;rcases Nat.eq_zero_or_pos m with rfl|hpos
 ·exact⟨λ_=>[],⟨λk hk=>absurd hk (Nat.not_lt_zero _),λk hk=>absurd hk (Nat.not_lt_zero _),a,cap,rfl⟩,λk hk=>absurd hk (Nat.not_lt_zero _)⟩
 ·rcases hblk with h0|⟨blk,ho,rfl⟩
  ·omega
  rcases hb with⟨h1,_⟩|⟨blk',arr,es,h0,h1,h2,h3,h4,h5,h6,⟨tail,h7⟩,h8⟩
  ·have:els=[]:=List.map_eq_nil_iff.1 h1;rw[this]at hm;simp at hm;omega
  ·rw[ho]at h1;cases h1
   have hex:∀ k,k<m->∃ us:List Value,us.length=10/\(∀j,j<10->w.cell? ⟨blk,o*21+k*21+(2+j),none⟩=us[j]?)/\Rep G.U w (Va3 (VE els o k)) (.agg us.toArray):=by
    intro k hk;obtain⟨e,he,hr⟩:=h5.get (o+k) (Vb3 (el els (o+k))) (by rw[List.getElem?_map,Vkw kv];rfl)
    have hr1:Rep G.U w (Vq8 (el els (o+k))) e:=hr;unfold Vq8 at hr1;simp only[Rep]at hr1;obtain⟨vs,rfl,g1,g2⟩:=hr1
    have hvl:vs.toList.length=21:=by have:=g1.length;simpa using this
    have g3:=(g1.drop 2).take 10;refine⟨(vs.toList.drop 2).take 10,by rw[List.length_take,List.length_drop];omega,λj hj=>?_,?_⟩
    ·have hj2:vs.toList[2+j]? =some (vs.toList[2+j]'(by omega)):=Zo _
     have hg:=Vd4 es (o+k) _ h6 he (2+j) _ (show(Value.agg vs).cells.toList[2+j]? =some _ from hj2)
     have hlt:(o+k)*21+(2+j)<(Va1 es).length:=(List.getElem?_eq_some_iff.1 hg).1;rw[List.getElem?_take,if_pos hj,List.getElem?_drop,hj2];simp only[World.cell?,h2]
     have:arr.toList[(o+k)*21+(2+j)]? =some (vs.toList[2+j]'(by omega)):=by rw[h7,List.getElem?_append_left hlt];exact hg
     rw[show o*21+k*21+(2+j)=(o+k)*21+(2+j) by rw[Nat.add_mul]];simpa using this
    ·rw[Vc3];simp only[Rep];refine⟨_,rfl,g3,λy hy=>g2 y ?_⟩;exact List.mem_of_mem_drop (List.mem_of_mem_take hy)
   obtain⟨V,hV⟩:∃ V:Nat->List Value,∀k,k<m->(V k).length=10/\(∀j,j<10->w.cell? ⟨blk,o*21+k*21+(2+j),none⟩=(V k)[j]?)/\Rep G.U w (Va3 (VE els o k)) (.agg (V k).toArray):=
    ⟨λk=>if h:k<m then Classical.choose (hex k h)else[],λk hk=>by simp only[dif_pos hk];exact Classical.choose_spec (hex k hk)⟩
   refine⟨V,⟨λk hk=>⟨blk,o*21,cap,rfl,h0,(hV k hk).2.1⟩,λk hk=>vok_of hw (m:=m) (hV k hk).1 (hV k hk).2.2 (hc k hk).1 (hc k hk).2,_,_,rfl⟩,λk hk=>⟨(hV k hk).1,(hV k hk).2.2⟩⟩
end Go.Proofs.YthbpjmogdonlkaaGreatDoor
namespace Go.Proofs.YthbpjmogdonlkaaGreatDoor
open Go Go.Eng Go.RowKit Go.Shelf
noncomputable def nzR:Code:=sqR (sqR (sqR (Vbc Tryz.f57)))
def nzE(els:List DElem)(o m:Nat):Exit->St->Prop:=EndsG Tryz.prog Tryz.f57 (nzB els) [] (jL ((nstG els o m).map Va3)) (nzB els) []
def nzU(els:List DElem)(o m:Nat):St:=sx 45 [(2,jL ((nstG els o m).map Va3))] (nzB els) []
theorem nzT_w(els:List DElem)(o m:Nat)(hm:o+m<=els.length)(hN:NsG els o m)(hw:∀ k,k<m->Va4 (VE els o k)<=1073741824):W Tryz.prog nzR (nzE els o m) (nzT els o m):=by
 intro G w a hr
 have hk:=hN.mm
 have h0:RepS G w (.vw 1001 21 o m) (a.eval (.tmp 0)):=hr.fr 0 _ rfl
 have h3:RepS G w (jL ((pcsG els o m).map Vb4)) (a.eval (.tmp 3)):=hr.fr 3 _ rfl
 have hsz:a.tmps.size=45:=hr.size.symm
 have hb1:RepB G w 1001 (.vec 107 21 (els.map Vb3)):=hr.bx (1001,_) (by simp[nzT,nzB,sx]);obtain⟨ue,hue⟩:∃ ue,ue=a.eval (.tmp 0):=⟨_,rfl⟩
 obtain⟨u3,hu3⟩:∃ u3,u3=a.eval (.tmp 3):=⟨_,rfl⟩
 rw[<-hue]at h0;rw[<-hu3]at h3;obtain⟨V,hE,hV⟩:=els_V hr.wf hb1 h0 hm (λk q=>⟨hN.cl k q,hw k q⟩);obtain⟨n1,n2⟩:=nsX_ok hN;obtain⟨g1,g2,g3⟩:=Vpg hN
 have hnest:=nsG_to w.heap.size (pcsG els o m) (by rw[Vjd];exact hk) n1 n2
 have hcall:=hnest.2 (gh0 G) w [u3] (gh0_wf hr.wf (Nat.le_refl _)) ⟨u3,[],rfl,h3,rfl⟩ (λp hp=>by
  simp only[gxB,Zm,Zh,or_false]at hp;subst hp
  exact Nat.le_refl _) ku
 rw[show nzR=.seq (.region 10 (Va7 10 Tryz.f57) false) (.seq (.region 11 (Va7 11 Tryz.f57) false) (.seq (.region 12 (Va7 12 Tryz.f57) false) .ret)) by kernel_rfl];refine wp_seq (wp_region_list ?_);rw[show(Va7 10 Tryz.f57).toList=[regO 10 Tryz.f57 0,regO 10 Tryz.f57 1,regO 10 Tryz.f57 2] by kernel_rfl];refine wl_mv (x:=.tmp 3) u3 (.inl kx) kx hu3.symm ?_;rw[show(regO 10 Tryz.f57 0).dst=some 39 by kernel_rfl];refine wl_call (f:=94) (args:=#[.tmp 39]) (tys:=#[62]) #[u3] kx kx hnest.1 ?_ ?_
 ·show #[_]=#[u3];rw[Vk9 kv]
 refine hcall.mono ?_;rintro e w1 ⟨u7,G1,rfl,s1,s2,s3, -⟩;refine⟨u7,rfl,?_⟩;rw[show(regO 10 Tryz.f57 1).dst=some 40 by kernel_rfl];refine wl_mv (x:=.tmp 40) u7 (.inr kx) kx (Vk9 (by rw[Ve8];omega)) ?_;rw[show(regO 10 Tryz.f57 2).dst=some 7 by kernel_rfl];obtain⟨a1,ha1⟩:∃ a1,a1=((a.put (some 39) u3).put (some 40) u7).put (some 7) u7:=⟨_,rfl⟩
 have z1:a1.tmps.size=45:=by rw[ha1,Ve8,Ve8,Ve8];exact hsz
 have e0:a1.eval (.tmp 0)=ue:=by rw[ha1,Vit gj,Vit gj,Vit gj,hue]
 have e7:a1.eval (.tmp 7)=u7:=by rw[ha1];exact Vk9 (by rw[Ve8,Ve8];omega)
 have d1:a1.defers=a.defers:=by rw[ha1];rfl
 rw[<-ha1]
 show Code.wp Tryz.prog _ _ a1 w1;refine wp_seq (wp_region_list ?_);rw[show(Va7 11 Tryz.f57).toList=[regO 11 Tryz.f57 0,regO 11 Tryz.f57 1,regO 11 Tryz.f57 2] by kernel_rfl];refine wl_mv (x:=.tmp 7) u7 (.inl kx) kx e7 ?_;rw[show(regO 11 Tryz.f57 0).dst=some 41 by kernel_rfl];refine wl_mv (x:=.tmp 0) ue (.inl kx) kx (by rw[Vit gj];exact e0) ?_;rw[show(regO 11 Tryz.f57 1).dst=some 42 by kernel_rfl];obtain⟨hB1,hU1⟩:=Vpt s1
 have hR1:Rr w.heap.size m w w1 V w1:=⟨hB1,Nat.le_refl _,λ_ _ _=>rfl,λb hb=>hb.2,λ_ _ _ _=>rfl,λ_ _ _ _ _=>.inl λ_ _=>rfl⟩
 have hrs:=callsIn_wide.1 (rs_in (U:=G1.U) hk hB1.size hE (SizeOf.sizeOf (mgD (nsX (pcsG els o m)))+1) (mgD (nsX (pcsG els o m))) u7 w1 (Za _) s3 g1 g2 hR1);refine wl_call (f:=95) (args:=#[.tmp 41,.tmp 42]) (tys:=#[24,50]) #[u7,ue] kx kx ⟨Tryz.f95,Tryz.func95,by kernel_rfl,by kernel_rfl⟩ ?_ ?_
 ·show #[_,_]=#[u7,ue];rw[Vk9 (by rw[Ve8];omega),Vit gj,Vk9 kv]
 refine hrs.mono ?_;rintro e w2 ⟨rfl,hR2, -,hD⟩;refine⟨_,rfl,?_⟩;rw[show(regO 11 Tryz.f57 2).dst=some 43 by kernel_rfl];obtain⟨a2,ha2⟩:∃ a2,a2=((a1.put (some 41) u7).put (some 42) ue).put (some 43) (.tuple #[]):=⟨_,rfl⟩
 have z2:a2.tmps.size=45:=by rw[ha2,Ve8,Ve8,Ve8];exact z1
 have f7:a2.eval (.tmp 7)=u7:=by rw[ha2,Vit gj,Vit gj,Vit gj];exact e7
 have d2:a2.defers=a.defers:=by rw[ha2];exact d1
 rw[<-ha2]
 show Code.wp Tryz.prog _ _ a2 w2;refine wp_seq (wp_region_list ?_);rw[show(Va7 12 Tryz.f57).toList=[regO 12 Tryz.f57 0,regO 12 Tryz.f57 1] by kernel_rfl];refine wl_mv (x:=.tmp 7) u7 (.inl kx) kx f7 ?_;rw[show(regO 12 Tryz.f57 0).dst=some 44 by kernel_rfl];refine wl_mv (x:=.tmp 44) u7 (.inr kx) kx (Vk9 kv) ?_;rw[show(regO 12 Tryz.f57 1).dst=some 2 by kernel_rfl]
 show Code.wp Tryz.prog _ _ _ w2;refine wp_ret ?_
 have hz:∀ b,w2.heap.size<=b->G1.U b=0:=λb hb=>s2.zero b (Nat.le_trans hR2.sz hb)
 obtain⟨t1,t2,t3⟩:=step_fresh (U':=G1.U) hr.wf hR2.low s1.U hU1 hz
 have him:=Vpn hr.wf hR2.low
 have hrep:=done_rep (VI:=VE els o) hk hR2 (λk q=>⟨(hV k q).1,Rep.mono s1.U him _ _ (hV k q).2⟩) (SizeOf.sizeOf (mgD (nsX (pcsG els o m)))+1) (mgD (nsX (pcsG els o m))) u7 (Za _) s3 g1 hD;refine⟨nzU els o m,_,⟨⟨true,_,?_,.inl rfl⟩,Vnl kx,by simp⟩,t1,⟨t2,?_,λt s ht=>?_,λp hp=>?_,λk=>?_,?_⟩,λi hi=>rfl⟩
 ·kernel_rfl
 ·rw[Ve8,Ve8,z2];rfl
 ·obtain⟨hlt,rfl⟩:=frOf_get ht
  by_cases h2:t=2
  ·subst h2
   have:=Vk9 (a:=a2.put (some 44) u7) (d:=2) (v:=u7) (by rw[Ve8];omega)
   simp only[Act.eval]at this;rw[this];exact hrep
  ·rw[show([(2,jL ((nstG els o m).map Va3))]:List (Nat×SV)).lookup t=none by simp[List.lookup,beq_false_of_ne h2]];trivial
 ·exact(hr.bx p hp).persist t1.toExt (t3 _) (λ_ _=>rfl)
 ·exact hr.gn k
 ·show(a2.put (some 44) u7 |>.put (some 2) u7).defers=G.df;exact d2.trans hr.defers
theorem W_then{x y:Code}{Q:Exit->St->Prop}{S S':St}(h:W Tryz.prog x (λe S1=>e=.normal/\Weak S1 S') S)(k:W Tryz.prog y Q S'):W Tryz.prog (.seq x y) Q S:=
 Vo5 (Vfv h (λe S1 ⟨he,hw⟩=>by subst he;exact Vai hw k))
theorem nz0_w(els:List DElem)(o m:Nat):W Tryz.prog (.region 0 (Va7 0 Tryz.f57) false) (λe S1=>e=.normal/\Weak S1 (sx 45 [(0,.vw 1001 21 o m)] (nzB els) [])) ⟨[.vw 1001 21 o m]++List.replicate (45-1) .junk,nzB els,[]⟩:=by
 refine WN ?_;refine gO (tn 1 z) ?_;exact LEAF .normal kx (S2:=sx 45 [(0,.vw 1001 21 o m)] (nzB els) []) (WK kx) ⟨rfl,λ_ _ _ h=>h⟩
theorem nesG_to(els:List DElem)(o m:Nat)(hm:o+m<=els.length)(he:els.length<=536870912)(hN:NsG els o m)(hw:∀ k,k<m->Va4 (VE els o k)<=1073741824):
  Va2 Tryz.prog 57 [.vw 1001 21 o m] (nzB els) [] (jL ((nstG els o m).map Va3)) (kept (nzB els)) []:=by
 refine Vbl (bx1:=nzB els) (n:=45) Tryz.func57 (show _=some (Vbc Tryz.f57) by kernel_rfl) kx kx (show 1<=45 by decide) ?_ ku (λs hs=>Vcs (List.all_eq_true.1 (show([.vw 1001 21 o m]:List SV).all (okSb ((nzB els).map (·.1)) [])=true by kernel_rfl) s hs)) (Vg8 kx) (Vcs kx) (Vg8 kx) kx rfl ?_ ?_ ?_
 ·exact λp hp=>of_decide_eq_true (List.all_eq_true.1 (show(nzB els).all (λp=>decide (1000<=p.1))=true by kernel_rfl) p hp)
 ·refine Val (c':=.seq (.region 0 (Va7 0 Tryz.f57) false) (.seq (.region 1 (Va7 1 Tryz.f57) false) (.seq nzX nzR))) kx ?_;refine W_then (nz0_w els o m) ?_;refine W_then (nz1_w els o m kv) ?_;exact W_then (nzX_w els o m hm he hN.mm) (nzT_w els o m hm hN hw)
 ·intro p hp;exact .inl (of_decide_eq_true (List.all_eq_true.1 (show(kept (nzB els)).all (λp=>decide (p.1<2000))=true by kernel_rfl) p hp))
 ·intro p hp;simp only[kept,nzB,List.map_cons,List.map_nil,Zm,Zh,or_false]at hp;rcases hp with rfl|rfl
  ·exact⟨_,List.mem_cons_self ..,λ_ _ h=>h⟩
  ·exact⟨_,List.mem_cons_of_mem _ (List.mem_cons_self ..),λ_ _ h=>h⟩
end Go.Proofs.YthbpjmogdonlkaaGreatDoor
namespace Go.Proofs.YthbpjmogdonlkaaGreatDoor
open Go Go.Eng
def txtE(s:ByteArray):DElem:=DElem.mk 0 (DPiece.mk 0 (txI s) ⟨#[]⟩ 0 false false false 0 0) false 0
theorem txtE_to(s:ByteArray):Va2 Tryz.prog 53 [jS s] [] [] (.av (Vq8 (txtE s))) [] []:=by
 refine bGs Tryz.func53 ?_;refine gO (tn 9 z) ?_;exact eNs
def rdG(s:ByteArray)(els:List DElem)(brs:List Int)(refs:Int):List (Nat×ABox):=rdB s els brs refs++[glP]
def CLO:ByteArray:=⟨#[93]⟩
theorem cls0_to(s:ByteArray)(els:List DElem)(refs i:Int)(he:els.length<=1073741824)(hr:0<=refs/\refs<=1073741824):
  Va2 Tryz.prog 91 [.ptr 1000 0,jI i] (rdG s els [] refs) [] (jI i) (rdG s (els++[inE (txI CLO)]) [] refs) []:=by
 have hc:=add_to s els [] refs (txI CLO) he hr;rw[show refB (txI CLO).fKind=false from rfl,cond_false]at hc;refine bGs Tryz.func91 ?_;refine gO (tn 7 (kb (b:=(((0:Nat):Int)==0)) (d:=true) rfl (tn 2 (kg hc trivial (tn 2 z))))) ?_;exact eNs
def cbS(s:ByteArray)(els:List DElem)(n:Nat)(brs:List Int)(f refs i:Int):St:=sx 97 [(0,.ptr 1000 0),(1,jI i),(5,jI f)] [(1000,rdC s els.length n refs),(2001,elB els),(2002,brB brs),glP] []
theorem cb5(s:ByteArray)(els:List DElem)(bs:List Int)(f refs i:Int)(hb:bs.length<=1073741824):W Tryz.prog (.region 5 (Va7 5 Tryz.f91) true) (λe S1=>e=.normal/\Weak S1 (cbS s els bs.length bs f refs i)) (cbS s els (bs++[f]).length (bs++[f]) f refs i):=by
 have hm1:IntKind.i64.wrap ((((bs++[f]).length:Nat):Int)-1)=((bs.length:Nat):Int):=wrE _ _ (by simp;omega)
 have hC:(0:Int)=0/\0<=IntKind.i64.wrap ((((bs++[f]).length:Nat):Int)-1)/\IntKind.i64.wrap ((((bs++[f]).length:Nat):Int)-1)<=(((bs++[f]).length:Nat):Int):=by rw[hm1];refine⟨rfl,by omega,by simp;omega⟩
 have h:=Vgt (P:=Tryz.prog) (id:=5) (ops:=Va7 5 Tryz.f91) (S:=cbS s els (bs++[f]).length (bs++[f]) f refs i) (cs:=[True,True,True,True,True,True,True,True,True,True,True,_,_,True,True,True,True]) 11 kx kx 97 [(0,.ptr 1000 0),(1,jI i),(5,jI f)] [(1000,rdC s els.length (Zi (IntKind.i64.wrap ((((bs++[f]).length:Nat):Int)-1))) refs),(2001,elB els),(2002,brB (bs++[f])),glP] [] ⟨trivial,trivial,trivial,trivial,trivial,trivial,trivial,trivial,trivial,trivial,trivial,hC,hC,trivial,trivial,trivial,trivial,trivial⟩ kx kx;rw[hm1]at h;refine Vfv h ?_;rintro e S1 ⟨h1,h2⟩;refine⟨h1,λG w a hr=>?_⟩
 have h3:=cut_weak (S:=sx 97 [(0,.ptr 1000 0),(1,jI i),(5,jI f)] [(1000,rdC s els.length bs.length refs),(2001,elB els),(2002,brB (bs++[f])),glP] []) (b:=2002) bs.length rfl G w a (h2 G w a hr);rw[show((bs++[f]).map vI).take bs.length=bs.map vI by simp[List.take_append]]at h3;exact h3
def rdK(s:ByteArray)(els:List DElem)(brs:List Int)(refs:Int):List (Nat×ABox):=[(1000,rdC s els.length brs.length refs),(2001,.vck 107 21 (els.map Vb3)),(2002,.vck 3 1 (brs.map vI)),glP]
def BrkTo(s:ByteArray)(els:List DElem)(brs:List Int)(refs:Int)(b:DElem)(o:Nat)(i:Int)(r:DInline×Int×Bool):Prop:=
 Va2 Tryz.prog 145 [.ptr 1000 0,.av (Vq8 b),.vw 2001 21 o (els.length-o),jI i] (rdG s els brs refs) [] (.av (.tup [Vap r.1,vI r.2.1,vB r.2.2])) (rdK s els brs refs) []
theorem set_elem(els:List DElem)(k:Nat)(E:DElem)(hk:k<els.length):(els.map Vb3).set k (((els.map Vb3).getD k (.val undef)).upd 0 (Vq8 E))=(els.set k E).map Vb3:=by
 rw[List.map_set];congr 1;rw[Zk,List.getElem?_map,Zo hk];rfl
theorem st_elem(els:List DElem)(f:Int)(E:DElem)(hf:0<=f/\f<els.length):0<=f/\f<(((els.map Vb3).length:Nat):Int)/\0+21<=((els.map Vb3).getD f.toNat (.val undef)).cells.length/\((els.map Vb3).getD f.toNat (.val undef)).isTup=false/\(Vq8 E).isTup=false/\(Vq8 E).cells.length=21/\0<21:=by
 have hk:f.toNat<els.length:=by omega
 have e:(els.map Vb3).getD f.toNat (.val undef)=Vb3 els[f.toNat]:=by
  rw[Zk,List.getElem?_map,Zo hk];rfl
 rw[e];exact⟨hf.1,by simpa using hf.2,Nat.le_refl _,rfl,rfl,rfl,by decide⟩
theorem cls1_to(s:ByteArray)(els:List DElem)(bs:List Int)(f refs i:Int)(x:DInline)(j:Int)(hk:BrkTo s els bs refs (el els f.toNat) (f+1).toNat i (x,j,false))(he:els.length<=1073741824)(hr:0<=refs/\refs<=1073741824)(hb:bs.length<=1073741824)(hf:0<=f/\f<els.length):
  Va2 Tryz.prog 91 [.ptr 1000 0,jI i] (rdG s els (bs++[f]) refs) [] (jI i) (rdG s (els.set f.toNat (txtE (sgnI (el els f.toNat).fimage))++[inE (txI CLO)]) bs refs) []:=by
 have hm:((((bs++[f]).length:Nat):Int)==0)=false:=by
  rw[beq_eq_false_iff_ne,Ze];simp;omega
 have hm1:IntKind.i64.wrap ((((bs++[f]).length:Nat):Int)-1)=((bs.length:Nat):Int):=wrE _ _ (by simp;omega)
 have hi1:0<=((bs.length:Nat):Int)/\((bs.length:Nat):Int)<(((bs++[f]).length:Nat):Int):=⟨by omega,by simp;omega⟩
 have he1:0<=((bs.length:Nat):Int)/\((bs++[f]).map vI)[((bs.length:Nat):Int).toNat]? =some (vI f):=⟨by omega,by simp⟩
 refine bGs Tryz.func91 ?_;refine gO (tn 7 (kb hm z)) ?_;refine DR3 (tn 9 (kn hm1 (kp hi1 (ke he1 (tn 1 z))))) kx kx kx ?_
 have hi2:0<=f/\f<((els.length:Nat):Int):=hf
 have he2:0<=f/\(els.map Vb3)[f.toNat]? =some (Vb3 (el els f.toNat)):=Vhg els f hf.1 hf.2;refine NXW (cbS s els bs.length bs f refs i) (tn 5 (kp hi2 (ke he2 (tn 2 z)))) kx ?_ kx ?_
 ·refine Vai (S':=cbS s els (bs++[f]).length (bs++[f]) f refs i) (WK kx) ?_;exact Val (c':=.region 5 (Va7 5 Tryz.f91) true) kx (cb5 s els bs f refs i hb)
 have hadd:IntKind.i64.wrap (f+1)=f+1:=wrE _ _ kv
 have hsl:0<=f+1/\f+1<=((els.length:Nat):Int)/\((els.length:Nat):Int)<=((els.length:Nat):Int):=⟨by omega,by omega,Int.le_refl _⟩
 refine DR3 (tn 7 (kn hadd (kp hsl (tn 1 (ko (cO hk) (kp hk (tn 13 z))))))) kx kx kx ?_;refine gO (kb (b:= !false) (d:=true) rfl z) ?_
 have hsg:=sgnI_to (el els f.toNat).fimage
 have htx:=txtE_to (sgnI (el els f.toNat).fimage);refine DR3 (tn 7 (ko (cO hsg) (kp hsg (tn 1 (ko (cO htx) (kp htx (tn 1 (kp hi2 (kp (st_elem els f (txtE (sgnI (el els f.toNat).fimage)) hf) (kq 10 z)))))))))) kx kx kx ?_;refine BOX (e:=107) (sz:=21) 2001 kx (set_elem els f.toNat (txtE (sgnI (el els f.toNat).fimage)) kv) ?_
 have hc:=add_to s (els.set f.toNat (txtE (sgnI (el els f.toNat).fimage))) bs refs (txI CLO) (by simpa using he) hr;rw[show refB (txI CLO).fKind=false from rfl,cond_false]at hc;rw[show rdB s (els.set f.toNat (txtE (sgnI (el els f.toNat).fimage))) bs refs=[(1000,rdC s els.length bs.length refs),(2001,elB (els.set f.toNat (txtE (sgnI (el els f.toNat).fimage)))),(2002,brB bs)] by simp[rdB]]at hc;refine gO (tn 2 (kg hc trivial (tn 2 z))) ?_;exact eNs
theorem cls2_to(s:ByteArray)(els:List DElem)(bs:List Int)(f refs i:Int)(x:DInline)(j:Int)(hk:BrkTo s els bs refs (el els f.toNat) (f+1).toNat i (x,j,true))(he:els.length<=1073741824)(hr:0<=refs/\refs<=1073741824)(hb:bs.length<=1073741824)(hf:0<=f/\f<els.length):
  Va2 Tryz.prog 91 [.ptr 1000 0,jI i] (rdG s els (bs++[f]) refs) [] (jI j) (rdG s (els.take f.toNat++[inE x]) bs (cond (refB x.fKind) (refs+1) refs)) []:=by
 have hm:((((bs++[f]).length:Nat):Int)==0)=false:=by
  rw[beq_eq_false_iff_ne,Ze];simp;omega
 have hm1:IntKind.i64.wrap ((((bs++[f]).length:Nat):Int)-1)=((bs.length:Nat):Int):=wrE _ _ (by simp;omega)
 have hi1:0<=((bs.length:Nat):Int)/\((bs.length:Nat):Int)<(((bs++[f]).length:Nat):Int):=⟨by omega,by simp;omega⟩
 have he1:0<=((bs.length:Nat):Int)/\((bs++[f]).map vI)[((bs.length:Nat):Int).toNat]? =some (vI f):=⟨by omega,by simp⟩
 refine bGs Tryz.func91 ?_;refine gO (tn 7 (kb hm z)) ?_;refine DR3 (tn 9 (kn hm1 (kp hi1 (ke he1 (tn 1 z))))) kx kx kx ?_
 have hi2:0<=f/\f<((els.length:Nat):Int):=hf
 have he2:0<=f/\(els.map Vb3)[f.toNat]? =some (Vb3 (el els f.toNat)):=Vhg els f hf.1 hf.2;refine NXW (cbS s els bs.length bs f refs i) (tn 5 (kp hi2 (ke he2 (tn 2 z)))) kx ?_ kx ?_
 ·refine Vai (S':=cbS s els (bs++[f]).length (bs++[f]) f refs i) (WK kx) ?_;exact Val (c':=.region 5 (Va7 5 Tryz.f91) true) kx (cb5 s els bs f refs i hb)
 have hadd:IntKind.i64.wrap (f+1)=f+1:=wrE _ _ kv
 have hsl:0<=f+1/\f+1<=((els.length:Nat):Int)/\((els.length:Nat):Int)<=((els.length:Nat):Int):=⟨by omega,by omega,Int.le_refl _⟩
 refine DR3 (tn 7 (kn hadd (kp hsl (tn 1 (ko (cO hk) (kp hk (tn 13 z))))))) kx kx kx ?_
 have hs2:(0:Int)=0/\0<=f/\f<=((els.length:Nat):Int):=⟨rfl,hf.1,by omega⟩
 refine gO (kb (b:= !true) (d:=false) rfl (tn 6 (kp hs2 (tn 3 (kq 13 z))))) ?_;refine CUTV (e:=107) (sz:=21) 2001 f.toNat kx (l':=(els.take f.toNat).map Vb3) (by rw[List.map_take]) ?_
 have hlt:(els.take f.toNat).length=f.toNat:=by rw[List.length_take];omega
 have hc:=add_to s (els.take f.toNat) bs refs x kv hr;rw[show rdB s (els.take f.toNat) bs refs=[(1000,rdC s f.toNat bs.length refs),(2001,elB (els.take f.toNat)),(2002,brB bs)] by simp[rdB,hlt]]at hc;refine gO (tn 2 (kg hc trivial (tn 2 z))) ?_;exact eNs
def pcS(s:ByteArray)(els:List DElem)(brs:List Int)(refs:Int)(p:DPiece):St:=sx 64 [(0,.ptr 1000 0),(3,.ptr 3 0)] ((3,.cells 68 (sPiece p))::rdB s els brs refs) []
def pcT(s:ByteArray)(els:List DElem)(brs:List Int)(refs:Int)(p:DPiece):St:=sx 64 [(0,.ptr 1000 0),(3,.ptr 3 0)] (rdB s els brs refs++[(3,.cells 68 (sPiece p))]) []
def Vnb(p:DPiece):DElem:=DElem.mk 1 p false 0
def opnE(p:DPiece)(refs:Int):DElem:=DElem.mk 2 (DPiece.mk 0 (DInline.mk 0 ⟨#[]⟩ ⟨#[]⟩ ⟨#[]⟩ ⟨⟨#[]⟩,[],[]⟩ [] [] []) ⟨#[]⟩ 0 false false false 0 0) p.fImage refs
theorem Vp1(s:ByteArray)(els:List DElem)(brs:List Int)(refs:Int)(e:DElem)(l:List (Nat×ABox)):([(1000,rdC s (els.length+1) brs.length refs),(2001,ABox.vec 107 21 ((els.map Vb3).take els.length++[Vb3 e])),(2002,brB brs)]++l)=rdB s (els++[e]) brs refs++l:=by
 rw[rdB_snoc]
theorem pc4(s:ByteArray)(els:List DElem)(brs:List Int)(refs:Int)(p:DPiece)(he:els.length<=1073741824):W Tryz.prog (.region 4 (Va7 4 Tryz.f52) true) (λe S1=>e=.normal/\Weak S1 (pcT s (els++[Vnb p]) brs refs p)) (pcS s els brs refs p):=by
 have hu:Uni 21 [Vb3 (Vnb p)]:=uni1 rfl rfl
 have hC:cBnd els.length 272 21 (els.map Vb3) (Vb3 (Vnb p)):=⟨by simp,hu,by simp;omega⟩
 unfold pcT;rw[<-Vp1];exact Vgt (cs:=[True,True,True,True,True,True,True,Uni 21 [Vb3 (Vnb p)],cBnd els.length 272 21 (els.map Vb3) (Vb3 (Vnb p)),cBnd els.length 272 21 (els.map Vb3) (Vb3 (Vnb p)),True,True,True,True]) 8 kx kx 64 [(0,.ptr 1000 0),(3,.ptr 3 0)] _ [] ⟨trivial,trivial,trivial,trivial,trivial,trivial,trivial,hu,hC,hC,trivial,trivial,trivial,trivial,trivial⟩ kx kx
theorem pRun_to(s:ByteArray)(els:List DElem)(brs:List Int)(refs:Int)(p:DPiece)(he:els.length<=1073741824)(hk:p.fKind=1):
  Va2 Tryz.prog 52 [.ptr 1000 0,.av (Vbo p)] (rdB s els brs refs) [] (jI p.fTo) (rdB s (els++[Vnb p]) brs refs) []:=by
 refine bGs Tryz.func52 ?_;refine gO (tn 6 (kb (b:=p.fKind==1) (d:=true) (by rw[hk];rfl) z)) ?_;refine NXW (pcT s (els++[Vnb p]) brs refs p) (tn 3 z) kx ?_ kx ?_
 ·refine Vai (S':=pcS s els brs refs p) (WK kx) ?_;exact Val (c':=.region 4 (Va7 4 Tryz.f52) true) kx (pc4 s els brs refs p he)
 exact eNs
theorem pOth_to(s:ByteArray)(els:List DElem)(brs:List Int)(refs:Int)(p:DPiece)(he:els.length<=1073741824)(hr:0<=refs/\refs<=1073741824)(h1:p.fKind≠1)(h2:p.fKind≠2)(h3:p.fKind≠3):
  Va2 Tryz.prog 52 [.ptr 1000 0,.av (Vbo p)] (rdB s els brs refs) [] (jI p.fTo) (rdB s (els++[inE p.fInline]) brs (cond (refB p.fInline.fKind) (refs+1) refs)) []:=by
 have hc:=add_to s els brs refs p.fInline he hr;refine bGs Tryz.func52 ?_;refine gO (tn 6 (kb (b:=p.fKind==1) (d:=false) (beq_false_of_ne h1) (tn 2 (kb (b:=p.fKind==2) (d:=false) (beq_false_of_ne h2) (tn 2 (kb (b:=p.fKind==3) (d:=false) (beq_false_of_ne h3) (tn 3 (kg hc trivial (tn 3 z))))))))) ?_;exact eNs
theorem pCls_to(s:ByteArray)(els els':List DElem)(brs brs':List Int)(refs refs':Int)(p:DPiece)(tu:Int)(h3:p.fKind=3)
  (hc:Va2 Tryz.prog 91 [.ptr 1000 0,jI p.fTo] (rdG s els brs refs) [] (jI tu) (rdG s els' brs' refs') []):
  Va2 Tryz.prog 52 [.ptr 1000 0,.av (Vbo p)] (rdG s els brs refs) [] (jI tu) (rdG s els' brs' refs') []:=by
 refine bGs Tryz.func52 ?_;refine gO (tn 6 (kb (b:=p.fKind==1) (d:=false) (by rw[h3];rfl) (tn 2 (kb (b:=p.fKind==2) (d:=false) (by rw[h3];rfl) (tn 2 (kb (b:=p.fKind==3) (d:=true) (by rw[h3];rfl) (tn 3 (kg hc trivial (tn 1 z))))))))) ?_;exact eNs
theorem rdB_brs(s:ByteArray)(els:List DElem)(brs:List Int)(refs:Int)(k:Int)(l:List (Nat×ABox)):([(1000,rdC s els.length (brs.length+1) refs),(2001,elB els),(2002,ABox.vec 3 1 ((brs.map vI).take brs.length++[vI k]))]++l)=rdB s els (brs++[k]) refs++l:=by
 simp[rdB,brB,Zg]
theorem pc6(s:ByteArray)(els:List DElem)(brs:List Int)(refs:Int)(p:DPiece)(hb:brs.length<=1073741824):W Tryz.prog (.region 6 (Va7 6 Tryz.f52) true) (λe S1=>e=.normal/\Weak S1 (pcT s els (brs++[((els.length:Nat):Int)]) refs p)) (pcS s els brs refs p):=by
 have hu:Uni 1 [vI ((els.length:Nat):Int)]:=uni1 rfl rfl
 have hC:cBnd brs.length 8 1 (brs.map vI) (vI ((els.length:Nat):Int)):=⟨by simp,hu,by simp;omega⟩
 unfold pcT;rw[<-rdB_brs];exact Vgt (cs:=[True,True,True,True,True,True,True,True,True,True,Uni 1 [vI ((els.length:Nat):Int)],cBnd brs.length 8 1 (brs.map vI) (vI ((els.length:Nat):Int)),cBnd brs.length 8 1 (brs.map vI) (vI ((els.length:Nat):Int)),True,True,True,True]) 11 kx kx 64 [(0,.ptr 1000 0),(3,.ptr 3 0)] _ [] ⟨trivial,trivial,trivial,trivial,trivial,trivial,trivial,trivial,trivial,trivial,hu,hC,hC,trivial,trivial,trivial,trivial,trivial⟩ kx kx
theorem pc7(s:ByteArray)(els:List DElem)(brs:List Int)(refs:Int)(p:DPiece)(he:els.length<=1073741824):W Tryz.prog (.region 7 (Va7 7 Tryz.f52) true) (λe S1=>e=.normal/\Weak S1 (pcT s (els++[opnE p refs]) brs refs p)) (pcS s els brs refs p):=by
 have hu:Uni 21 [Vb3 (opnE p refs)]:=uni1 rfl rfl
 have hC:cBnd els.length 272 21 (els.map Vb3) (Vb3 (opnE p refs)):=⟨by simp,hu,by simp;omega⟩
 unfold pcT;rw[<-Vp1];exact Vgt (cs:=[True,True,True,True,True,True,True,True,True,True,True,True,Uni 21 [Vb3 (opnE p refs)],cBnd els.length 272 21 (els.map Vb3) (Vb3 (opnE p refs)),cBnd els.length 272 21 (els.map Vb3) (Vb3 (opnE p refs)),True,True,True,True]) 13 kx kx 64 [(0,.ptr 1000 0),(3,.ptr 3 0)] _ [] ⟨trivial,trivial,trivial,trivial,trivial,trivial,trivial,trivial,trivial,trivial,trivial,trivial,hu,hC,hC,trivial,trivial,trivial,trivial,trivial⟩ kx kx
theorem pOpn_to(s:ByteArray)(els:List DElem)(brs:List Int)(refs:Int)(p:DPiece)(he:els.length<=1073741824)(hb:brs.length<=1073741824)(hk:p.fKind=2):
  Va2 Tryz.prog 52 [.ptr 1000 0,.av (Vbo p)] (rdB s els brs refs) [] (jI p.fTo) (rdB s (els++[opnE p refs]) (brs++[((els.length:Nat):Int)]) refs) []:=by
 refine bGs Tryz.func52 ?_;refine gO (tn 6 (kb (b:=p.fKind==1) (d:=false) (by rw[hk];rfl) (tn 2 (kb (b:=p.fKind==2) (d:=true) (by rw[hk];rfl) z)))) ?_;refine NXW (pcT s els (brs++[((els.length:Nat):Int)]) refs p) z kx ?_ kx ?_
 ·refine Vai (S':=pcS s els brs refs p) (WK kx) ?_;exact Val (c':=.region 6 (Va7 6 Tryz.f52) true) kx (pc6 s els brs refs p hb)
 refine NXW (pcT s (els++[opnE p refs]) (brs++[((els.length:Nat):Int)]) refs p) (tn 3 z) kx ?_ kx ?_
 ·refine Vai (S':=pcS s els (brs++[((els.length:Nat):Int)]) refs p) (WK kx) ?_;exact Val (c':=.region 7 (Va7 7 Tryz.f52) true) kx (pc7 s els (brs++[((els.length:Nat):Int)]) refs p he)
 exact eNs
end Go.Proofs.YthbpjmogdonlkaaGreatDoor
set_option maxRecDepth 100000
namespace Go.Proofs.YthbpjmogdonlkaaGreatDoor
open Go Go.Eng
def wC(s:ByteArray):Nat:=200*(s.size+20)
def WD(s:ByteArray)(i:Int)(r:DInline×Int):Prop:=r.2=0\/(r.1.fKids=[]/\0<=r.1.fKind/\(Va4 r.1:Int)<=(wC s:Int)*(r.2-i))
theorem Vjp(s:ByteArray){d:Int}(h:1<=d):(wC s:Int)<=(wC s:Int)*d:=by
 have:(wC s:Int)*1<=(wC s:Int)*d:=Zl h kv;omega
theorem WD.mk{s:ByteArray}{i e:Int}{k:Int}{t d ti:ByteArray}{ar:List ByteArray}(h:i<e)(hk:0<=k)(hw:Va4 (DInline.mk k t d ti ⟨⟨#[]⟩,[],[]⟩ ar [] [])<=wC s):WD s i (DInline.mk k t d ti ⟨⟨#[]⟩,[],[]⟩ ar [] [],e):=
 .inr ⟨rfl,hk,by have:=Vjp s (d:=e-i) kv;show(Va4 (DInline.mk k t d ti ⟨⟨#[]⟩,[],[]⟩ ar [] []):Int)<=(wC s:Int)*(e-i);omega⟩
theorem wIx(k:Int)(t d ti:ByteArray)(ar:List ByteArray):Va4 (DInline.mk k t d ti ⟨⟨#[]⟩,[],[]⟩ ar [] [])=t.size+d.size+ti.size+7+wl wStr ar:=by
 rw[Vav,Vfy];simp only[wl,w1,wStr,show Zb (⟨#[]⟩:ByteArray)=0 from rfl];omega
theorem WD.tx{s:ByteArray}{i e:Int}{k:Int}{t:ByteArray}(h:i<e)(hk:0<=k)(ht:t.size<=s.size+100):WD s i (DInline.mk k t ⟨#[]⟩ ⟨#[]⟩ ⟨⟨#[]⟩,[],[]⟩ [] [] [],e):=
 WD.mk h hk (by rw[wIx,show Zb (⟨#[]⟩:ByteArray)=0 from rfl];unfold wC;simp only[wl];omega)
theorem WD.dt{s:ByteArray}{i e:Int}{k:Int}{t:ByteArray}(h:i<e)(hk:0<=k)(ht:t.size<=s.size+100):WD s i (DInline.mk k ⟨#[]⟩ t ⟨#[]⟩ ⟨⟨#[]⟩,[],[]⟩ [] [] [],e):=
 WD.mk h hk (by rw[wIx,show Zb (⟨#[]⟩:ByteArray)=0 from rfl];unfold wC;simp only[wl];omega)
theorem Vdh(s:ByteArray)(a b:Nat):(ByteArray.extract s a b).size<=s.size:=by rw[Vag];omega
theorem bd_lt{s:ByteArray}{i:Int}{r:DInline×Int}(h:Bd s i r)(h0:0<=i)(hr:r.2≠0):i<r.2:=by rcases h with h|h;exact absurd h hr;exact h.1
theorem bslP_wd(s:ByteArray)(i:Int)(h0:0<=i):WD s i (bslP s i):=by
 have hb:=Vbw s (i+2) kv;exact Va5 (WD s i) (λ_=>.inl rfl) (λ_=>Va5 (WD s i) (λ_=>WD.tx kv gj (Nat.zero_le _)) (λ_=>Va5 (WD s i) (λ_=>WD.tx kv gj (Nat.le_trans (Vdh ..) kv)) (λ_=>.inl rfl)))
theorem nmdP_wd(s:ByteArray)(i:Int)(h0:0<=i):WD s i (nmdP s i):=by
 have hb:=Vfh s (i+2) kv;refine Va5 (WD s i) (λ_=>.inl rfl) (λ_=>Va5 (WD s i) (λ_=>.inl rfl) (λ_=>Va5 (WD s i) (λ_=>WD.tx kv gj (Nat.le_trans (Vdh ..) kv)) (λ_=>Va5 (WD s i) (λ_=>WD.tx kv gj (Nat.le_trans (Vdh ..) kv)) (λ_=>Va5 (WD s i) (λ_=>WD.mk kv gj ?_) (λ_=>.inl rfl)))))
 have he:=Vdh s (Zi (i+2)) (Zi (nmeS s (i+2)));rw[wIx];unfold wC;simp only[wl,show Zb (⟨#[]⟩:ByteArray)=0 from rfl,show Zb (⟨#[112,97,103,101]⟩:ByteArray)=4 from rfl];omega
theorem dolG_wd(s:ByteArray)(i:Int)(h0:0<=i):WD s i (dolG s i):=by
 refine Va5 (WD s i) (λ_=>.inl rfl) (λq=>?_)
 have q:=of_decide_eq_false q;exact Va5 (WD s i) (λ_=>.inl rfl) (λ_=>Va5 (WD s i) (λ_=>.inl rfl) (λ_=>WD.tx kv gj (Nat.le_trans (Vdh ..) kv)))
theorem codP_wd(s:ByteArray)(ka:List Int)(la:List (List Int))(i:Int)(h0:0<=i)(h1:i<s.size)(h:TkOk s la):WD s i (codP s ka la i):=by
 have hb:=codP_bd s ka la i h0 h1 h;unfold codP at hb ⊢;cases hd:decide (codJ s ka la i<0)with
 |true=>exact .inl rfl
 |false=>
  rw[hd,cond_false]at hb;refine Va5 (WD s i) (λq=>by cases q) (λ_=>?_)
  by_cases hz:codJ s ka la i+runE s i-i=0
  ·exact .inl hz
  ·exact WD.tx (bd_lt hb h0 hz) gj (Nat.le_trans (codC_sz _) (Nat.le_trans (Vdh ..) kv))
theorem mtcP_wd(s:ByteArray)(kd:List Int)(ld:List (List Int))(i:Int)(h0:0<=i)(h1:i<s.size)(h:TkOk s ld):WD s i (mtcP s kd ld i):=by
 have hb:=mtcP_bd s kd ld i h0 h1 h;unfold mtcP at hb ⊢;cases hd:cond (decide (i+1>=((Zb s:Nat):Int))) true (BYi s (i+1) !=96)with
 |true=>exact .inl rfl
 | false=>
  rw[hd,cond_false]at hb;refine Va5 (WD s i) (λq=>by cases q) (λ_=>?_);cases hd2:decide (mtcJ s kd ld i<0)with
  |true=>exact .inl rfl
  |false=>
   rw[hd2,cond_false]at hb;refine Va5 (WD s i) (λq=>by cases q) (λ_=>?_)
   by_cases hz:mtcJ s kd ld i+mtcN s i+1=0
   ·exact .inl hz
   ·exact WD.tx (bd_lt hb h0 hz) gj (Nat.le_trans (codC_sz _) (Nat.le_trans (Vdh ..) kv))
theorem Vmg(s:ByteArray)(i v6:Int)(k0:Int->(DInline×Int))(h0:0<=i):∀(n:Nat)(w:Int),i<w->WD s i (autP_L1 s i v6 k0 n w)
 |0,w,_=>.inl rfl
 |n+1,w,h=>by
  rw[autP_L1];refine Va5 (WD s i) (λ_=>Vmg s i v6 k0 h0 n _ kv) (λ_=>Va5 (WD s i) (λ_=>.inl rfl) (λ_=>WD.dt kv gj (Nat.le_trans (Vdh ..) kv)))
theorem Vmi(s:ByteArray)(i:Int)(h0:0<=i):∀(n:Nat)(w:Int),i<w->WD s i (autP_L0 s i n w)
 |0,w,_=>.inl rfl
 |n+1,w,h=>by
  rw[autP_L0];exact Va5 (WD s i) (λ_=>Vmi s i h0 n _ kv) (λ_=>Va5 (WD s i) (λ_=>.inl rfl) (λ_=>Vmg s i _ _ h0 _ _ h))
theorem autP_wd(s:ByteArray)(i:Int)(h0:0<=i):WD s i (autP s i):=Vmi s i h0 _ _ kv
theorem wl_strs{n:Nat}:∀ {l:List ByteArray},(∀x∈l,x.size<=n)->wl wStr l<=l.length*(n+1)
 |[],_=>Nat.zero_le _
 |x::l,h=>by
  have h1:=h x ku
  have h2:=wl_strs (n:=n) (l:=l) (λy hy=>h y (by simp[hy]));rw[wl,wStr,List.length_cons,Nat.succ_mul];omega
theorem usL_wd(s t:ByteArray)(i:Int)(h0:0<=i)(ht:t.size<=s.size):∀(n:Nat)(v:Int)(l:List ByteArray),i<v->v<=s.size+1->l.length<=8->(∀x∈l,x.size<=s.size)->WD s i (usL s t n v l)
 |0,v,l,_,_,_,_=>.inl rfl
 | n+1,v,l,h,h2,h3,h4=>by
  rw[usL];refine Va5 (WD s i) (λq=>?_) (λ_=>Va5 (WD s i) (λ_=>.inl rfl) (λ_=>?_))
  ·cases hc:(((l.map Vay).length:Int)==8)with
   |true=>exact .inl rfl
   |false=>
    have hc:(((l.map Vay).length:Nat):Int)≠8:=by simpa using hc
    rw[Zr]at hc;rw[cond_false]
    have q:=of_decide_eq_true (Va9 q).1
    have hb:=usE_bd s (v+1) kv;refine usL_wd s t i h0 ht n _ _ kv kv (by simp;omega) (λx hx=>?_);rcases Zd.1 hx with hx|hx
    ·exact h4 x hx
    ·have:x=_:=Zc.1 hx;rw[this];exact Vdh ..
  ·refine WD.mk kv gj ?_;rw[wIx]
   have:=wl_strs (n:=s.size) h4
   have h5:l.length*(s.size+1)<=8*(s.size+1):=Zt _ h3;unfold wC;simp only[show Zb (⟨#[]⟩:ByteArray)=0 from rfl];omega
theorem useP_wd(s:ByteArray)(i:Int)(h0:0<=i)(h1:i<s.size):WD s i (useP s i):=by
 have hb:=Vfh s (i+2) kv;unfold useP;exact Va5 (WD s i) (λ_=>.inl rfl) (λ_=>Va5 (WD s i) (λ_=>.inl rfl) (λ_=>usL_wd s _ i h0 (Vdh ..) _ _ _ kv kv gj ku))
theorem appS_sz(n:Int):(appS ⟨#[]⟩ n).size<=4:=by
 unfold appS;rw[Zf]
 have:=(enc_sz (IntKind.i32.wrap (cond (cond (cond (decide ((n:Int)<0)) true (decide ((n:Int)>1114111))) true (cond (decide ((n:Int)>=55296)) (decide ((n:Int)<=57343)) false)) 65533 n))).2
 show 0+(seqS n).size<=4;unfold seqS;omega
theorem refL_wd(s r:ByteArray)(i:Int)(h0:0<=i):∀(m:Nat)(n k:Int),2<=k->WD s i (refL r i m n k)
 |0,n,k,_=>.inl rfl
 |m+1,n,k,h=>by
  rw[refL];refine Va5 (WD s i) (λq=>refL_wd s r i h0 m _ _ kv) (λ_=>?_);unfold refT;exact Va5 (WD s i) (λ_=>.inl rfl) (λ_=>Va5 (WD s i) (λ_=>.inl rfl) (λ_=>WD.tx kv gj (by have:=appS_sz n;omega)))
theorem refP_wd(s:ByteArray)(i:Int)(h0:0<=i):WD s i (refP s i):=
 Va5 (WD s i) (λ_=>WD.tx kv gj (by show 1<=_;omega)) (λ_=>Va5 (WD s i) (λ_=>WD.tx kv gj (by show 1<=_;omega)) (λ_=>Va5 (WD s i) (λ_=>WD.tx kv gj (by show 1<=_;omega)) (λ_=>Va5 (WD s i) (λ_=>WD.tx kv gj (by show 1<=_;omega)) (λ_=>Va5 (WD s i) (λ_=>.inl rfl) (λ_=>refL_wd s _ i h0 _ _ _ kv)))))
def CWt(t:ByteArray)(r:DCited×Bool):Prop:=Vdn r.1<=3*t.size+5
theorem citF_w(t:ByteArray):CWt t (citF t):=by
 have h1:∀(u v x:ByteArray)(q b:Bool),u.size<=t.size->v.size<=t.size->x.size<=t.size->CWt t (DCited.mk u v x q,b):=λu v x q b hu hv hx=>by
  show Vdn (DCited.mk u v x q)<=_;rw[Vog];simp only[w1,wStr];omega
 have h2:∀ a b p,(trmB (ByteArray.extract t a b) p).size<=t.size:=λa b p=>Nat.le_trans (Vf8 _ _) (Vdh ..)
 have hz:∀ b,CWt t (DCited.mk ⟨#[]⟩ ⟨#[]⟩ ⟨#[]⟩ false,b):=λb=>h1 _ _ _ _ _ (Nat.zero_le _) (Nat.zero_le _) (Nat.zero_le _)
 exact Va5 (CWt t) (λ_=>hz _) (λ_=>Va5 (CWt t) (λ_=>Va5 (CWt t) (λ_=>hz _) (λ_=>Va5 (CWt t) (λ_=>hz _) (λ_=>h1 _ _ _ _ _ (Vdh ..) (h2 _ _ _) (h2 _ _ _)))) (λ_=>Va5 (CWt t) (λ_=>hz _) (λ_=>Va5 (CWt t) (λ_=>hz _) (λ_=>h1 _ _ _ _ _ (Vdh ..) (h2 _ _ _) (h2 _ _ _)))))
theorem ctsG_w(t:ByteArray):wl Vdn (ctsG t).1<=(t.size+1)*(3*t.size+5):=by
 unfold ctsG;refine Va5 (λr:List DCited×Bool=>wl Vdn r.1<=(t.size+1)*(3*t.size+5)) (λ_=>Nat.zero_le _) (λ_=>Va5 (λr:List DCited×Bool=>wl Vdn r.1<=(t.size+1)*(3*t.size+5)) (λ_=>?_) (λ_=>Nat.zero_le _))
 have h1:=prt_len t
 have h2:=prt_sz t
 have h3:∀ l:List ByteArray,(∀x∈l,x.size<=t.size)->wl Vdn (cuts l)<=l.length*(3*t.size+5):=by
  intro l
  induction l with
  |nil=>exact λ_=>Nat.zero_le _
  |cons x l ih=>
   intro h
   have h4:Vdn (citF x).1<=3*x.size+5:=citF_w x
   have h5:=h x ku
   have h6:=ih (λy hy=>h y (by simp[hy]))
   show Vdn (citF x).1+wl Vdn (cuts l)<=_;rw[List.length_cons,Nat.succ_mul];omega
 exact Nat.le_trans (h3 _ h2) (Zt _ h1)
theorem cteG_wd(s:ByteArray)(i:Int)(h0:0<=i)(h1:i<s.size):WD s i (cteG s i):=by
 unfold cteG;refine Va5 (WD s i) (λ_=>.inl rfl) (λq=>Va5 (WD s i) (λ_=>.inl rfl) (λ_=>?_))
 have q:=of_decide_eq_false (Vae q).1;generalize hn:idxA (ByteArray.extract s (Zi (i+1)) (Zb s)) (⟨#[91,93]⟩)=n at q ⊢
 have hz:=Vag s (Zi (i+1)) (Zi (i+1+n))
 have hw:=ctsG_w (ByteArray.extract s (Zi (i+1)) (Zi (i+1+n)));generalize ByteArray.extract s (Zi (i+1)) (Zi (i+1+n))=t at hz hw ⊢
 have ht:(t.size:Int)<=n:=by omega
 have ht2:t.size<=s.size:=by omega
 refine .inr ⟨rfl,by show(0:Int)<=13;decide,?_⟩;rw[Vav,Vfy];simp only[wl,w1,wStr,show Zb (⟨#[]⟩:ByteArray)=0 from rfl]
 have h5:(t.size+1)*(3*t.size+5)+8<=(t.size+2)*wC s:=by
  have e1:3*t.size+5<=wC s:=by unfold wC;omega
  have e2:(t.size+1)*(3*t.size+5)<=(t.size+1)*wC s:=Nat.mul_le_mul_left _ e1
  have e3:(t.size+2)*wC s=(t.size+1)*wC s+wC s:=by rw[show t.size+2=(t.size+1)+1 from rfl,Nat.succ_mul]
  have e4:8<=wC s:=by unfold wC;omega
  omega
 have h6:(((t.size+2)*wC s:Nat):Int)<=(wC s:Int)*(i+n+2-i):=by
  rw[Int.natCast_mul,Int.mul_comm];exact Zl kv kv
 omega
structure PW (s:ByteArray) (i:Int) (p:DPiece):Prop where
 kids:p.fInline.fKids=[]
 kind:0<=p.fInline.fKind
 wt:(Va4 p.fInline:Int)<=(wC s:Int)*(p.fTo-i)
 num:20*p.fN<=(wC s:Int)*(p.fTo-i)
theorem Vga{s:ByteArray}{i:Int}{x:DInline×Int}{r:DPiece×Bool}(hx:WD s i x)(hb:Bd s i x)(hr:PW s i r.1):PW s i (fdR x r).1:=by
 unfold fdR;refine Va5 (λq:DPiece×Bool=>PW s i q.1) (λq=>?_) (λ_=>hr)
 have q:=of_decide_eq_true q;rcases hx with e|⟨h1,h2,h3⟩
 ·omega
 ·refine⟨h1,h2,h3,?_⟩
  show 20*(0:Int)<=_
  have:=Vb5 x.1
  show _<=(wC s:Int)*(x.2-i)
  omega
theorem Vnm{s:ByteArray}{i e:Int}(h:i<e):PW s i (litP s i e):=by
 have h1:=wIx 1 (ByteArray.extract s (Zi i) (Zi e)) ⟨#[]⟩ ⟨#[]⟩ []
 have h2:=Vdh s (Zi i) (Zi e)
 have h3:=Vjp s (d:=e-i) kv;simp only[wl,show Zb (⟨#[]⟩:ByteArray)=0 from rfl]at h1
 have h4:(Va4 (litP s i e).fInline:Int)<=(wC s:Int)*(e-i):=by
  have:Va4 (litP s i e).fInline<=wC s:=by show Va4 (DInline.mk _ _ _ _ _ _ _ _)<=_;rw[h1];unfold wC;omega
  omega
 exact⟨rfl,by show(0:Int)<=1;decide,h4,by show 20*(0:Int)<=(wC s:Int)*(e-i);omega⟩
theorem pcR_pw(s:ByteArray)(i k e:Int)(g:Bool)(h:i<e):PW s i (pcR k g e).1:=by
 have h3:=Vjp s (d:=e-i) kv
 have h1:Va4 zI=7:=by
  show Va4 (DInline.mk _ _ _ _ _ _ _ _)=_;rw[wIx];rfl
 refine⟨rfl,Int.le_refl _,?_,by show 20*(0:Int)<=(wC s:Int)*(e-i);omega⟩
 show(Va4 zI:Int)<=(wC s:Int)*(e-i)
 have:7<=wC s:=by unfold wC;omega
 omega
theorem nxR_pw(s:ByteArray)(i:Int)(h0:0<=i)(h1:i<s.size):PW s i (nxR s i).1:=by
 have nb:=Vct s i h0 h1;exact Vnm kv
theorem runP_pw(s:ByteArray)(ka:List Int)(va:List AV)(kd:List Int)(vd:List AV)(i:Int)(h0:0<=i)(h1:i<s.size):PW s i (runP s ka va kd vd i).1:=by
 have h2:=Vi3 s i h0 h1;unfold runP;refine Va5 (λq:DPiece×Bool=>PW s i q.1) (λ_=>Vnm kv) (λ_=>?_)
 have h3:=Vjp s (d:=runE s i-i) kv
 have h4:Va4 (DInline.mk 0 ⟨#[]⟩ ⟨#[]⟩ ⟨#[]⟩ ⟨⟨#[]⟩,[],[]⟩ [] [] [])=7:=by rw[wIx];rfl
 refine⟨rfl,Int.le_refl _,?_,?_⟩
 ·show(Va4 (DInline.mk 0 ⟨#[]⟩ ⟨#[]⟩ ⟨#[]⟩ ⟨⟨#[]⟩,[],[]⟩ [] [] []):Int)<=(wC s:Int)*(runE s i-i)
  have:7<=wC s:=by unfold wC;omega
  omega
 ·show 20*(runE s i-i)<=(wC s:Int)*(runE s i-i)
  exact Zp (by unfold wC;omega) kv
theorem spR_pw(s:ByteArray)(i:Int)(h0:0<=i)(h1:i<s.size)(hb:BYi s i=32\/BYi s i=10):PW s i (spR s i).1:=by
 have hs:=Vbw s i h0
 have hs2:=Vbw s (skpS s i+1) kv
 have hN:=nxR_pw s i h0 h1
 have h2:PW s i (fdR (coI 2 ⟨#[]⟩,skpS s (skpS s i+1)) (nxR s i)).1:=Vga (WD.tx kv gj (by show 0<=_;omega)) (Bd.mk kv kv) hN;unfold spR;rcases hb with hb|hb
 ·have h3:=skpS_lt s i h0 h1 hb;exact Va5 (λq:DPiece×Bool=>PW s i q.1) (λ_=>Vnm kv) (λ_=>h2)
 ·have h3:=skpS_at s i h1 hb;refine Va5 (λq:DPiece×Bool=>PW s i q.1) (λq=>?_) (λ_=>h2);exfalso;rw[h3,hb]at q
  have hd:decide (i>=((Zb s:Nat):Int))=false:=decide_eq_false kv;rw[hd]at q;exact absurd q gj
theorem pceG_pw(s:ByteArray)(ka:List Int)(la:List (List Int))(kd:List Int)(ld:List (List Int))(i:Int)(h0:0<=i)(h1:i<s.size)(hta:TkOk s la)(htd:TkOk s ld):PW s i (pceG s ka la kd ld i).1:=by
 have hN:=nxR_pw s i h0 h1
 have hE:=Vi3 s i h0 h1
 have kP:∀ {b:Bool} {x y:DPiece×Bool},(b=true->PW s i x.1)->(b=false->PW s i y.1)->PW s i (cond b x y).1:=λh1 h2=>Va5 (λq:DPiece×Bool=>PW s i q.1) h1 h2
 unfold pceG;refine kP (λ_=>Vga (bslP_wd s i h0) (bslP_bd s i h0 h1) hN) (λ_=>?_);refine kP (λq=>spR_pw s i h0 h1 (.inl (eq_of_beq q))) (λ_=>?_);refine kP (λq=>spR_pw s i h0 h1 (.inr (eq_of_beq q))) (λ_=>?_);refine kP (λ_=>Vga (refP_wd s i h0) (refP_bd s i h0 h1) hN) (λ_=>?_);refine kP (λ_=>Vga (mtcP_wd s kd ld i h0 h1 htd) (mtcP_bd s kd ld i h0 h1 htd) (Vga (dolG_wd s i h0) (dolG_bd s i h0 h1) hN)) (λ_=>?_);refine kP (λ_=>Vga (codP_wd s ka la i h0 h1 hta) (codP_bd s ka la i h0 h1 hta) (Vnm kv)) (λ_=>?_);refine kP (λ_=>Vga (autP_wd s i h0) (autP_bd s i h0) hN) (λ_=>?_);refine kP (λ_=>Vga (useP_wd s i h0 h1) (useP_bd s i h0 h1) hN) (λ_=>?_);refine kP (λ_=>Vga (nmdP_wd s i h0) (nmdP_bd s i h0 h1) (Vga (cteG_wd s i h0 h1) (cteG_bd s i h0 h1) (pcR_pw s i _ _ _ kv))) (λ_=>?_);refine kP (λ_=>kP (λ_=>pcR_pw s i _ _ _ kv) (λ_=>hN)) (λ_=>?_);refine kP (λ_=>pcR_pw s i _ _ _ kv) (λ_=>?_);refine kP (λ_=>runP_pw s ka _ kd _ i h0 h1) (λ_=>?_);refine kP (λ_=>runP_pw s ka _ kd _ i h0 h1) (λ_=>?_);exact kP (λ_=>runP_pw s ka _ kd _ i h0 h1) (λ_=>hN)
end Go.Proofs.YthbpjmogdonlkaaGreatDoor
set_option maxRecDepth 100000
namespace Go.Proofs.YthbpjmogdonlkaaGreatDoor
open Go Go.Eng
def TL(i:Int)(r:ByteArray×Int×Bool):Prop:=r.2.2=true->i<=r.2.1
theorem TL0(i:Int):TL i (⟨#[]⟩,0,false):=λh=>by cases h
theorem Vil(s:ByteArray)(i:Int):∀(n:Nat)(v:Int),i<=v->TL i (angS_L0 s i n v)
 |0,v,_=>λh=>by cases h
 |n+1,v,h=>Va5 (TL i) (λ_=>Va5 (TL i) (λ_=>Vil s i n _ kv) (λ_=>Va5 (TL i) (λ_=>λ_=>by show i<=v+1;omega) (λ_=>Va5 (TL i) (λ_=>TL0 i) (λ_=>Vil s i n _ kv)))) (λ_=>TL0 i)
theorem Vg1(s:ByteArray)(i last:Int):∀(n:Nat)(v:Int),i<=v->TL i (quoS_L0 s i last n v)
 |0,v,_=>λh=>by cases h
 |n+1,v,h=>Va5 (TL i) (λ_=>Va5 (TL i) (λ_=>Vg1 s i last n _ kv) (λ_=>Va5 (TL i) (λ_=>λ_=>by show i<=v+1;omega) (λ_=>Va5 (TL i) (λ_=>TL0 i) (λ_=>Vg1 s i last n _ kv)))) (λ_=>TL0 i)
theorem Vmb(s:ByteArray)(i:Int):∀(n:Nat)(w v:Int),i<=v->TL i (dstG_L0 s i n w v)
 |0,w,v,_=>λh=>by cases h
 |n+1,w,v,h=>by
  have hv:v<=cond (escL s v) (v+1) v:=by cases escL s v <;>simp <;>omega
  exact Va5 (TL i) (λ_=>Va5 (TL i) (λ_=>Va5 (TL i) (λ_=>TL0 i) (λ_=>λ_=>h)) (λ_=>Va5 (TL i) (λ_=>TL0 i) (λ_=>Vmb s i n _ _ kv))) (λ_=>Va5 (TL i) (λ_=>TL0 i) (λ_=>λ_=>h))
theorem dstG_lo(s:ByteArray)(i:Int):TL i (dstG s i):=
 Va5 (TL i) (λ_=>TL0 i) (λ_=>Va5 (TL i) (λ_=>Vil s i _ _ kv) (λ_=>Vmb s i _ _ _ (Int.le_refl _)))
theorem titM_lo(s:ByteArray)(i:Int):TL i (titM s i):=
 Va5 (TL i) (λ_=>Vg1 s i _ _ _ kv) (λ_=>Va5 (TL i) (λ_=>Vg1 s i _ _ _ kv) (λ_=>TL0 i))
structure TlB (s:ByteArray) (i:Int) (r:ByteArray×ByteArray×ByteArray×Int×Bool):Prop where
 d:r.1.size<=s.size
 t:r.2.1.size<=s.size
 l:r.2.2.1.size<=60
 e:r.2.2.2.2=true->i<r.2.2.2.1/\r.2.2.2.1<=s.size+1
theorem TlB.no(s:ByteArray)(i:Int):TlB s i (⟨#[]⟩,⟨#[]⟩,⟨#[]⟩,0,false):=⟨Nat.zero_le _,Nat.zero_le _,Nat.zero_le _,λh=>by cases h⟩
def BrB(s:ByteArray)(i:Int)(r:ByteArray×Int×Bool):Prop:=r.1.size<=60/\(r.2.2=true->i<r.2.1/\r.2.1<=s.size+1)
theorem brkM_b(s:ByteArray)(i:Int)(h0:0<=i):BrB s i (brkM s i):=by
 have hz:BrB s i (⟨#[]⟩,0,false):=⟨Nat.zero_le _,λh=>by cases h⟩
 refine Va5 (BrB s i) (λ_=>hz) (λq=>Va5 (BrB s i) (λ_=>hz) (λ_=>⟨lblM_sz _,λ_=>?_⟩))
 have q:=of_decide_eq_false (Vae q).1
 have h1:=cutM_sz (ByteArray.extract s (Zi (i+1)) (Zb s))
 have h2:=Vag s (Zi (i+1)) s.size
 show i<i+_+2/\i+_+2<=_;omega
theorem tlM_b(s:ByteArray)(i:Int)(h0:0<=i):TlB s i (tlM s i):=by
 have hb:=brkM_b s i h0
 have k1:=Vi0 s (i+1) kv
 have d1:=dstG_bd s (skpL s (i+1)) kv
 have d2:=dstG_lo s (skpL s (i+1))
 have k2:=Vi0 s (dstG s (skpL s (i+1))).2.1 d1.1
 have d0:0<=(dstG s (skpL s (i+1))).2.1:=d1.1
 have t1:=titM_bd s (skpL s (dstG s (skpL s (i+1))).2.1) kv
 have t2:=titM_lo s (skpL s (dstG s (skpL s (i+1))).2.1)
 have k3:=Vi0 s (titM s (skpL s (dstG s (skpL s (i+1))).2.1)).2.1 t1.1
 have hd:((dstG s (skpL s (i+1))).1.size:Int)<=s.size:=d1.2.2
 have ht:((titM s (skpL s (dstG s (skpL s (i+1))).2.1)).1.size:Int)<=s.size:=t1.2.2;refine Va5 (TlB s i) (λ_=>TlB.no s i) (λ_=>Va5 (TlB s i) (λ_=>⟨Nat.zero_le _,Nat.zero_le _,hb.1,hb.2⟩) (λ_=>?_));refine Va5 (TlB s i) (λq=>⟨Nat.zero_le _,Nat.zero_le _,Nat.zero_le _,λ_=>?_⟩) (λ_=>Va5 (TlB s i) (λ_=>TlB.no s i) (λqd=>?_))
 ·have q:=of_decide_eq_true (Va9 q).1
  show i<skpL s (i+1)+1/\skpL s (i+1)+1<=_;omega
 have qd:(dstG s (skpL s (i+1))).2.2=true:=by simpa using qd
 have d3:=d2 qd;refine Va5 (TlB s i) (λ_=>Va5 (TlB s i) (λ_=>TlB.no s i) (λqt=>Va5 (TlB s i) (λ_=>TlB.no s i) (λq=>⟨by show(dstG s (skpL s (i+1))).1.size<=_;omega,by show(titM s (skpL s (dstG s (skpL s (i+1))).2.1)).1.size<=_;omega,Nat.zero_le _,λ_=>?_⟩))) (λ_=>Va5 (TlB s i) (λ_=>TlB.no s i) (λq=>⟨by show(dstG s (skpL s (i+1))).1.size<=_;omega,Nat.zero_le _,Nat.zero_le _,λ_=>?_⟩))
 ·have qt:(titM s (skpL s (dstG s (skpL s (i+1))).2.1)).2.2=true:=by simpa using qt
  have t3:=t2 qt
  have q:=of_decide_eq_false (Vae q).1
  show i<skpL s (titM s (skpL s (dstG s (skpL s (i+1))).2.1)).2.1+1/\skpL s (titM s (skpL s (dstG s (skpL s (i+1))).2.1)).2.1+1<=_;omega
 ·have q:=of_decide_eq_false (Vae q).1
  show i<skpL s (dstG s (skpL s (i+1))).2.1+1/\skpL s (dstG s (skpL s (i+1))).2.1+1<=_;omega
def AtB(s:ByteArray)(a:DAttr):Prop:=a.fID.size<=s.size/\(∀c∈a.fClasses,c.size<=s.size)/\∀ p∈a.fPairs,Vmt p<=2*s.size+3
theorem AtB0(s:ByteArray):AtB s aZ:=⟨Nat.zero_le _,λc hc=>(Zh hc).elim,λc hc=>(Zh hc).elim⟩
theorem aclG_at{s:ByteArray}(a:DAttr)(y:ByteArray)(h:AtB s a)(hy:y.size<=s.size):AtB s (aclG a y).2:=by
 refine Va5 (λr:Int×DAttr=>AtB s r.2) (λ_=>h) (λ_=>Va5 (λr:Int×DAttr=>AtB s r.2) (λ_=>h) (λq=>⟨h.1,λc hc=>?_,h.2.2⟩));rcases Zd.1 (show c∈a.fClasses++[y]from hc)with hc|hc
 ·exact h.2.1 c hc
 ·rw[Zc.1 hc];exact hy
theorem aprG_at{s:ByteArray}(a:DAttr)(y v:ByteArray)(h:AtB s a)(hy:y.size<=s.size)(hv:v.size<=s.size):AtB s (aprG a y v).2:=by
 refine Va5 (λr:Int×DAttr=>AtB s r.2) (λ_=>h) (λ_=>Va5 (λr:Int×DAttr=>AtB s r.2) (λ_=>h) (λq=>⟨h.1,h.2.1,λc hc=>?_⟩));rcases Zd.1 (show c∈a.fPairs++[⟨y,v⟩]from hc)with hc|hc
 ·exact h.2.2 c hc
 ·rw[Zc.1 hc,wPair_eq];simp only[wStr];omega
theorem rdiG_at(s:ByteArray)(i:Int)(a:DAttr)(ha:AtB s a)(h0:0<=i)(h1:i<s.size):AtB s (rdiG s i a).2:=by
 have hn1:i<=nmI s i/\nmI s i<=s.size:=by unfold nmI;cases(cond (BYi s i==35) true (BYi s i==46)) <;>simp <;>omega
 have hto:=Vjl s (nmI s i) kv
 have hto2:nmI s i<=toI s i/\toI s i<=s.size:=by unfold toI;omega
 have hna:(naI s i).size<=s.size:=Vdh ..;refine Va5 (λr:(Int×Int)×DAttr=>AtB s r.2) (λ_=>ha) (λ_=>Va5 (λr:(Int×Int)×DAttr=>AtB s r.2) (λ_=>Va5 (λr:(Int×Int)×DAttr=>AtB s r.2) (λ_=>ha) (λ_=>⟨hna,ha.2.1,ha.2.2⟩)) (λ_=>Va5 (λr:(Int×Int)×DAttr=>AtB s r.2) (λ_=>aclG_at a _ ha hna) (λ_=>?_)));refine Va5 (λr:(Int×Int)×DAttr=>AtB s r.2) (λ_=>ha) (λq=>Va5 (λr:(Int×Int)×DAttr=>AtB s r.2) (λ_=>ha) (λ_=>?_))
 have q1:=of_decide_eq_false (Vae q).1
 have hv:=rdvG_bd s (toI s i+1) kv kv
 have hv2:((rdvG s (toI s i+1)).1.size:Int)<=s.size:=hv.1.2.2;exact aprG_at a _ _ ha hna kv
theorem prsL_at(s:ByteArray):∀(n:Nat)(v:Int)(a:DAttr)(sep:Bool),0<=v->v<=s.size->Few2 a->AtB s a->AtB s (prsL s n v a sep).1
 |0,v,a,sep,_,_,_,_=>AtB0 s
 |n+1,v,a,sep,h0,h1,hf,ha=>by
  refine Va5 (λr:DAttr×Int×Int=>AtB s r.1) (λ_=>AtB0 s) (λq=>Va5 (λr:DAttr×Int×Int=>AtB s r.1) (λ_=>ha) (λ_=>Va5 (λr:DAttr×Int×Int=>AtB s r.1) (λ_=>AtB0 s) (λ_=>Va5 (λr:DAttr×Int×Int=>AtB s r.1) (λ_=>AtB0 s) (λ_=>?_))))
  have q:=of_decide_eq_false q;obtain⟨r1,r2,r3,r4⟩:=rdiG_bd s v a hf h0 kv
  have hs:=Vbw s (rdiG s v a).1.1 r2;exact prsL_at s n _ _ _ kv kv r1 (rdiG_at s v a ha h0 kv)
theorem prsA_at(s:ByteArray)(i:Int):AtB s (prsA s i).1:=by
 refine Va5 (λr:DAttr×Int×Int=>AtB s r.1) (λ_=>AtB0 s) (λq=>?_);obtain⟨q,_⟩:=Vae q;obtain⟨q1,q2⟩:=Vae q
 have q1:=of_decide_eq_false q1
 have q2:=of_decide_eq_false q2
 have hs:=Vbw s (i+1) kv;exact prsL_at s _ _ _ _ kv kv few0 (AtB0 s)
theorem wl_pairs{n:Nat}:∀ {l:List DPair},(∀x∈l,Vmt x<=n)->wl Vmt l<=l.length*n
 |[],_=>Nat.zero_le _
 |x::l,h=>by
  have h1:=h x ku
  have h2:=wl_pairs (n:=n) (l:=l) (λy hy=>h y (by simp[hy]));rw[wl,List.length_cons,Nat.succ_mul];omega
theorem prsA_w(s:ByteArray)(i:Int):Vgw (prsA s i).1<=100*s.size+200:=by
 have h1:=prsA_at s i
 have h2:=(prsA_bd s i).1;generalize(prsA s i).1=a at h1 h2 ⊢
 have h3:=wl_strs h1.2.1
 have h4:=wl_pairs h1.2.2
 have h5:a.fClasses.length*(s.size+1)<=32*(s.size+1):=Zt _ h2.1
 have h6:a.fPairs.length*(2*s.size+3)<=32*(2*s.size+3):=Zt _ h2.2
 have h7:=h1.1;rw[Vfy,wStr];omega
def eEMP:ByteArray:=⟨#[123,61,101,109,112,104,125]⟩
def eSTG:ByteArray:=⟨#[123,61,115,116,114,111,110,103,125]⟩
def eSTK:ByteArray:=⟨#[123,61,115,116,114,105,107,101,125]⟩
def ephR(t:ByteArray)(i:Int):ByteArray:=ByteArray.extract t (Zi i) (Zb t)
def ephI(t:ByteArray)(i:Int):Int×Int:=cond (hpxB (ephR t i) eEMP) (6,i+7) (cond (hpxB (ephR t i) eSTG) (7,i+9) (cond (hpxB (ephR t i) eSTK) (8,i+9) (0,0)))
def ephS(t:ByteArray)(i:Int)(k:Int):St:=sx 29 [(0,jS t),(1,jI i),(9,.av (.agg [vI 6,vI 7,vI 8])),(10,jI k)] [] []
theorem eph_to(t:ByteArray)(i:Int)(ht:t.size<=1073741824)(hi:0<=i/\i<=t.size):Va2 Tryz.prog 196 [jS t,jI i] [] [] (.av (.tup [vI (ephI t i).1,vI (ephI t i).2])) [] []:=by
 have hs:0<=i/\i<=((Zb t:Nat):Int)/\((Zb t:Nat):Int)<=((Zb t:Nat):Int):=⟨hi.1,hi.2,Int.le_refl _⟩
 refine BEG (λr:Int×Int=>.av (.tup [vI r.1,vI r.2])) (ephI t i) Tryz.func196 kx ?_;refine UF (ephI.eq_1 ..) ?_;refine gO (tn 4 z) ?_;refine UN (ephS t i 0) 4 kx (WK kx) ?_;refine gO (tn 1 (kb tt (kp (show 0<=(0:Int)/\(0:Int)<(3:Nat)/\(0:Int).toNat*1+1<=([vI 6,vI 7,vI 8]:List AV).length/\0<1 by decide) (tn 5 (kb ff (tn 2 (kb ff (tn 2 (kp hs (tn 1 (kc (Vcb (ephR t i) eEMP) z))))))))))) ?_;refine CS (λh0=>?_) (λh0=>?_)
 ·refine gO (kb h0 (tn 4 (kn (wrE (i+7) (i+7) kv) (tn 2 z)))) ?_;refine UO z kx ?_;exact EN kx
 ·refine gO (kb h0 (kn (wrE ((0:Int)+1) 1 kv) (tn 1 z))) ?_;refine UA (ephS t i 1) kx (WK kx) ?_;refine gO (tn 1 (kb tt (kp (show 0<=(1:Int)/\(1:Int)<(3:Nat)/\(1:Int).toNat*1+1<=([vI 6,vI 7,vI 8]:List AV).length/\0<1 by decide) (tn 5 (kb tt (tn 3 (kp hs (tn 1 (kc (Vcb (ephR t i) eSTG) z))))))))) ?_;refine CS (λh1=>?_) (λh1=>?_)
  ·refine gO (kb h1 (tn 4 (kn (wrE (i+9) (i+9) kv) (tn 2 z)))) ?_;refine UO z kx ?_;exact EN kx
  ·refine gO (kb h1 (kn (wrE ((1:Int)+1) 2 kv) (tn 1 z))) ?_;refine UA (ephS t i 2) kx (WK kx) ?_;refine gO (tn 1 (kb tt (kp (show 0<=(2:Int)/\(2:Int)<(3:Nat)/\(2:Int).toNat*1+1<=([vI 6,vI 7,vI 8]:List AV).length/\0<1 by decide) (tn 5 (kb ff (tn 2 (kb tt (tn 3 (kp hs (tn 1 (kc (Vcb (ephR t i) eSTK) z))))))))))) ?_;refine CS (λh2=>?_) (λh2=>?_)
   ·refine gO (kb h2 (tn 4 (kn (wrE (i+9) (i+9) kv) (tn 2 z)))) ?_;refine UO z kx ?_;exact EN kx
   ·refine gO (kb h2 (kn (wrE ((2:Int)+1) 3 kv) (tn 1 z))) ?_;refine UA (ephS t i 3) kx (WK kx) ?_;refine gO (tn 1 (kb ff z)) ?_;refine UO (tn 2 z) kx ?_;exact EN kx
def bkB(s:ByteArray)(els:List DElem)(brs:List Int)(refs:Int):List (Nat×ABox):=[(1000,.cells 52 [jS s,.vs 1001 els.length,.vs 1003 brs.length,jI refs]),(1001,elB els),(1003,brB brs),glP]
def mkI(k:Int)(t d ti:ByteArray)(a:DAttr)(ks:List DInline):DInline:=DInline.mk k t d ti a [] [] ks
abbrev BkR:=DInline×Int×Bool
theorem ren_bk{s:ByteArray}{els:List DElem}{brs:List Int}{refs:Int}{b:DElem}{o:Nat}{i:Int}{r:BkR}
  (h:Va2 Tryz.prog 145 [.ptr 1000 0,.av (Vq8 b),.vw 1001 21 o (els.length-o),jI i] (bkB s els brs refs) [] (.av (.tup [Vap r.1,vI r.2.1,vB r.2.2])) (kept (bkB s els brs refs)) []):BrkTo s els brs refs b o i r:=
 Vcq kx (Vaa (Vaf (1001,0) (2001,0) rfl) (Vaa (Vaf (1003,0) (2002,0) rfl) h))
def bkT(s:ByteArray)(refs:Int)(b:DElem)(ks:List DInline)(i:Int):BkR:=
 cond (!b.fimage) (cond (decide (refs>b.freferences)) (zI,0,false) (mkI 9 (tlM s i).2.2.1 (tlM s i).1 (tlM s i).2.1 aZ ks,(tlM s i).2.2.2.1,true))
  (cond ((prsA s (tlM s i).2.2.2.1).2.2==0) (mkI 10 (tlM s i).2.2.1 (tlM s i).1 (tlM s i).2.1 (prsA s (tlM s i).2.2.2.1).1 ks,(prsA s (tlM s i).2.2.2.1).2.1,true) (mkI 10 (tlM s i).2.2.1 (tlM s i).1 (tlM s i).2.1 aZ ks,(tlM s i).2.2.2.1,true))
def bkN(s:ByteArray)(b:DElem)(ks:List DInline)(i:Int):BkR:=
 cond b.fimage (zI,0,false) (cond ((ephI s i).1 !=0) (mkI (ephI s i).1 e0 e0 e0 aZ ks,(ephI s i).2,decide (ks.length>0))
  (cond (cond ((prsA s i).2.2 !=0) true (empA (prsA s i).1)) (zI,0,false) (mkI 11 e0 e0 e0 (prsA s i).1 ks,(prsA s i).2.1,true)))
def bkG(s:ByteArray)(refs:Int)(b:DElem)(ks:List DInline)(i:Int):BkR:=cond (tlM s i).2.2.2.2 (bkT s refs b ks i) (bkN s b ks i)
def bkE(r:BkR):SV:=.av (.tup [Vap r.1,vI r.2.1,vB r.2.2])
theorem bkG_to(s:ByteArray)(els:List DElem)(brs:List Int)(refs:Int)(b:DElem)(o:Nat)(i:Int)(hs:s.size<=100000)(h0:0<=i)(h1:i<=s.size)
  (hn:Va2 Tryz.prog 57 [.vw 1001 21 o (els.length-o)] (nzB els) [] (jL ((nstG els o (els.length-o)).map Va3)) (kept (nzB els)) []):BrkTo s els brs refs b o i (bkG s refs b (nstG els o (els.length-o)) i):=by
 have hT:=tlM_to s i kv h0 kv
 have hE:=eph_to s i kv ⟨h0,h1⟩
 have hA:=prsA_to s i kv
 have hM:=empA_to (prsA s i).1 (by have:=prsA_w s i;omega)
 have hA2:=prsA_to s (tlM s i).2.2.2.1 kv;refine ren_bk ?_;generalize nstG els o (els.length-o)=ks at hn ⊢;unfold bkG;cases ht:(tlM s i).2.2.2.2 with
 | true=>
  rw[ht]at hT;rw[cond_true];unfold bkT;cases hi:b.fimage with
  | false=>
   have hb:(!b.fimage)=true:=by rw[hi];rfl
   simp only[Bool.not_false,cond_true];cases hr:decide (refs>b.freferences)with
   |true=>
    rw[cond_true];refine BEGv (λ_:Unit=>bkE (zI,0,false)) (λ_=>bkB s els brs refs) (λ_=>[]) () Tryz.func145 kx ?_;refine gO (tn 9 (kc hT (tn 12 (kb (b:=true) (d:=true) rfl (tn 9 (kb hb z)))))) ?_;refine DR3 (tn 7 z) kx kx kx ?_;refine gO (kb hr (tn 4 z)) ?_;exact ENk kx kx kx
   |false=>
    rw[cond_false];refine BEGv (λ_:Unit=>bkE (mkI 9 (tlM s i).2.2.1 (tlM s i).1 (tlM s i).2.1 aZ ks,(tlM s i).2.2.2.1,true)) (λ_=>bkB s els brs refs) (λ_=>[]) () Tryz.func145 kx ?_;refine gO (tn 9 (kc hT (tn 12 (kb (b:=true) (d:=true) rfl (tn 9 (kb hb z)))))) ?_;refine DR3 (tn 7 z) kx kx kx ?_;refine gO (kb hr (tn 1 (kg hn trivial (tn 7 z)))) ?_;exact ENk kx kx kx
  | true=>
   have hb:(!b.fimage)=false:=by rw[hi];rfl
   simp only[Bool.not_true,cond_false];cases hr:((prsA s (tlM s i).2.2.2.1).2.2==0)with
   |true=>
    rw[cond_true];refine BEGv (λ_:Unit=>bkE (mkI 10 (tlM s i).2.2.1 (tlM s i).1 (tlM s i).2.1 (prsA s (tlM s i).2.2.2.1).1 ks,(prsA s (tlM s i).2.2.2.1).2.1,true)) (λ_=>bkB s els brs refs) (λ_=>[]) () Tryz.func145 kx ?_;refine gO (tn 9 (kc hT (tn 12 (kb (b:=true) (d:=true) rfl (tn 9 (kb hb (tn 3 (kg hn trivial (tn 7 (kc hA2 (tn 10 (kb hr (tn 10 z))))))))))))) ?_;exact ENk kx kx kx
   |false=>
    rw[cond_false];refine BEGv (λ_:Unit=>bkE (mkI 10 (tlM s i).2.2.1 (tlM s i).1 (tlM s i).2.1 aZ ks,(tlM s i).2.2.2.1,true)) (λ_=>bkB s els brs refs) (λ_=>[]) () Tryz.func145 kx ?_;refine gO (tn 9 (kc hT (tn 12 (kb (b:=true) (d:=true) rfl (tn 9 (kb hb (tn 3 (kg hn trivial (tn 7 (kc hA2 (tn 10 (kb hr (tn 5 z))))))))))))) ?_;exact ENk kx kx kx
 | false=>
  rw[ht]at hT;rw[cond_false];unfold bkN;cases hi:b.fimage with
  |true=>
   rw[cond_true];refine BEGv (λ_:Unit=>bkE (zI,0,false)) (λ_=>bkB s els brs refs) (λ_=>[]) () Tryz.func145 kx ?_;refine gO (tn 9 (kc hT (tn 12 (kb (b:=false) (d:=false) rfl (tn 2 (kb hi (tn 4 z))))))) ?_;exact ENk kx kx kx
  | false=>
   rw[cond_false];cases hk:((ephI s i).1 !=0)with
   |true=>
    rw[cond_true]
    have hl:decide (ks.length>0)=decide ((((ks.map Va3).length:Nat):Int)>0):=by rw[Zr];exact decide_eq_decide.2 kv
    rw[hl];refine BEGv (λ_:Unit=>bkE (mkI (ephI s i).1 e0 e0 e0 aZ ks,(ephI s i).2,decide ((((ks.map Va3).length:Nat):Int)>0))) (λ_=>bkB s els brs refs) (λ_=>[]) () Tryz.func145 kx ?_;refine gO (tn 9 (kc hT (tn 12 (kb (b:=false) (d:=false) rfl (tn 2 (kb hi (tn 5 (kc hE (tn 7 (kb hk (tn 1 (kg hn trivial (tn 11 z))))))))))))) ?_;exact ENk kx kx kx
   | false=>
    rw[cond_false];cases hm:cond ((prsA s i).2.2 !=0) true (empA (prsA s i).1)with
    |true=>
     rw[cond_true];refine BEGv (λ_:Unit=>bkE (zI,0,false)) (λ_=>bkB s els brs refs) (λ_=>[]) () Tryz.func145 kx ?_;refine gO (tn 9 (kc hT (tn 12 (kb (b:=false) (d:=false) rfl (tn 2 (kb hi (tn 5 (kc hE (tn 7 (kb hk (tn 5 (kc hA (tn 11 (kj ((prsA s i).2.2 !=0) z (tn 1 (kc hM z)) (kb hm (tn 4 z)))))))))))))))) ?_;exact ENk kx kx kx
    |false=>
     rw[cond_false];refine BEGv (λ_:Unit=>bkE (mkI 11 e0 e0 e0 (prsA s i).1 ks,(prsA s i).2.1,true)) (λ_=>bkB s els brs refs) (λ_=>[]) () Tryz.func145 kx ?_;refine gO (tn 9 (kc hT (tn 12 (kb (b:=false) (d:=false) rfl (tn 2 (kb hi (tn 5 (kc hE (tn 7 (kb hk (tn 5 (kc hA (tn 11 (kj ((prsA s i).2.2 !=0) z (tn 1 (kc hM z)) (kb hm z))))))))))))))) ?_;refine DR3 (tn 2 (ko (cO hn) (kp hn (tn 7 z)))) kx kx kx ?_;exact ENk kx kx kx
end Go.Proofs.YthbpjmogdonlkaaGreatDoor
set_option maxRecDepth 100000
namespace Go.Proofs.YthbpjmogdonlkaaGreatDoor
open Go Go.Eng
structure RS where
 i:Int
 els:List DElem
 brs:List Int
 refs:Int
def rfc(x:DInline)(r:Int):Int:=cond (refB x.fKind) (r+1) r
def noE(a:RS)(f:Nat)(bs:List Int)(i:Int):RS:=⟨i,a.els.set f (txtE (sgnI (el a.els f).fimage))++[inE (txI CLO)],bs,a.refs⟩
def yesE(a:RS)(f:Nat)(bs:List Int)(r:BkR):RS:=⟨r.2.1,a.els.take f++[inE r.1],bs,rfc r.1 a.refs⟩
def bkO(s:ByteArray)(a:RS)(f:Nat)(i:Int):BkR:=bkG s a.refs (el a.els f) (nstG a.els (f+1) (a.els.length-(f+1))) i
def clsG(s:ByteArray)(a:RS)(i:Int):RS:=match a.brs.getLast? with
 |none=>⟨i,a.els++[inE (txI CLO)],[],a.refs⟩
 |some f=>cond (bkO s a f.toNat i).2.2 (yesE a f.toNat a.brs.dropLast (bkO s a f.toNat i)) (noE a f.toNat a.brs.dropLast i)
def pieG(s:ByteArray)(a:RS)(p:DPiece):RS:=cond (p.fKind==1) ⟨p.fTo,a.els++[Vnb p],a.brs,a.refs⟩ (cond (p.fKind==2) ⟨p.fTo,a.els++[opnE p a.refs],a.brs++[((a.els.length:Nat):Int)],a.refs⟩
 (cond (p.fKind==3) (clsG s a p.fTo) ⟨p.fTo,a.els++[inE p.fInline],a.brs,rfc p.fInline a.refs⟩))
def pcQ(s:ByteArray)(i:Int):DPiece:=pcH s (rnsM s).ka (rnsM s).la (rnsM s).kd (rnsM s).ld i
def wS(l:List DElem):Nat:=(l.map wE).sum
theorem Vlu(a b:List DElem):wS (a++b)=wS a+wS b:=by simp[wS]
theorem wS_one(e:DElem):wS [e]=wE e:=by simp[wS]
theorem wS_cons(e:DElem)(l:List DElem):wS (e::l)=wE e+wS l:=by simp[wS]
theorem wEs_S(els:List DElem)(o:Nat):∀ m,o+m<=els.length->wEs els o m=wS ((els.drop o).take m)
 |0,_=>rfl
 | m+1,h=>by
  have ih:=wEs_S els o m kv
  have e:(els.drop o).take (m+1)=(els.drop o).take m++[el els (o+m)]:=by
   rw[List.take_succ_eq_append_getElem (by rw[List.length_drop];omega)];congr 1;simp[el,show o+m<els.length by omega]
  rw[e,Vlu,wS_one, <-ih];rfl
theorem Vj8(els:List DElem)(f:Nat):wS els=wS (els.take f)+wS (els.drop f):=by rw[<-Vlu,List.take_append_drop]
theorem el_cons{els:List DElem}{f:Nat}(h:f<els.length):els.drop f=el els f::els.drop (f+1):=by
 rw[List.drop_eq_getElem_cons h];simp[el,h]
theorem wS_set{els:List DElem}{f:Nat}(h:f<els.length)(E:DElem):wS (els.set f E)<=wS els+wE E:=by
 rw[Vj8 els f,el_cons h,wS_cons,List.set_eq_take_append_cons_drop,if_pos h,Vlu,wS_cons];omega
structure EOk (s:ByteArray) (e:DElem):Prop where
 cl:ClnI e.fpiece.fInline
 kz:e.fkind≠0->e.fpiece.fInline.fKids=[]
 wt:Va4 e.fpiece.fInline<=1073741824
structure RdI (s:ByteArray) (n:Nat) (a:RS):Prop where
 i0:((n:Nat):Int)<=a.i
 ib:a.i<=3*s.size+10
 ns:n<=s.size
 len:a.els.length<=n
 brs:∀ f∈a.brs,0<=f/\f<a.els.length
 asc:a.brs.Pairwise (· < ·)
 refs:0<=a.refs/\a.refs<=n
 els:∀ e∈a.els,EOk s e
 wt:((wS a.els:Nat):Int)<=(wC s:Int)*a.i
theorem asc_le{n:Nat}{l:List Int}(ha:l.Pairwise (· < ·))(hb:∀ x∈l,0<=x/\x<n):l.length<=n:=asc_len ha (λx hx=>⟨x.toNat,by have:=hb x hx;omega,by have:=hb x hx;omega⟩)
theorem RdI.blen{s:ByteArray}{n:Nat}{a:RS}(h:RdI s n a):a.brs.length<=a.els.length:=asc_le h.asc h.brs
theorem RdI.tot{s:ByteArray}{n:Nat}{a:RS}(hs:s.size<=820)(h:RdI s n a):wS a.els<=1073000000:=by
 have h1:=h.wt
 have h2:(wC s:Int)*a.i<=(wC s:Int)*(3*s.size+10):=Zl h.ib kv
 have h3:(wC s:Int)*(3*s.size+10)<=168000*(3*s.size+10):=Zp (by unfold wC;omega) kv;omega
theorem RdI.nsg{s:ByteArray}{n:Nat}{a:RS}(hs:s.size<=820)(h:RdI s n a)(o m:Nat)(hm:o+m<=a.els.length):NsG a.els o m/\(∀k,k<m->Va4 (VE a.els o k)<=1073741824)/\wEs a.els o m<=wS (a.els.drop o):=by
 have hE:∀ k,k<m->EOk s (el a.els (o+k)):=λk hk=>h.els _ (Vcp kv)
 have hw:=wEs_S a.els o m hm
 have h1:=Vj8 (a.els.drop o) m
 have h2:=Vj8 a.els o
 have h3:=h.tot hs;refine⟨⟨by have:=h.len;have:=h.ns;omega,λk hk=>(hE k hk).cl,λk hk=>(hE k hk).kz,by omega⟩,λk hk=>(hE k hk).wt,by omega⟩
theorem wE_in(x:DInline):wE (inE x)=Va4 x:=rfl
theorem wE_txt(t:ByteArray):wE (txtE t)=t.size+7:=wI0 1 t
theorem wE_cl:wE (inE (txI CLO))=8:=wI0 1 CLO
theorem EOk.leaf{s:ByteArray}{e:DElem}(hk:0<=e.fpiece.fInline.fKind)(hz:e.fpiece.fInline.fKids=[])(hw:Va4 e.fpiece.fInline<=1073741824):EOk s e:=
 ⟨Vaj.2 ⟨by omega,λy hy=>by rw[hz]at hy;cases hy⟩,λ_=>hz,hw⟩
theorem wC_i{s:ByteArray}{w:Nat}{i j:Int}(h:(w:Int)<=(wC s:Int)*i)(d:Nat)(hd:(d:Int)<=(wC s:Int)*(j-i)):((w+d:Nat):Int)<=(wC s:Int)*j:=by
 have e:(wC s:Int)*j=(wC s:Int)*i+(wC s:Int)*(j-i):=by rw[<-Int.mul_add];congr 1;omega
 omega
structure BkO (s:ByteArray) (i:Int) (ks:List DInline) (r:BkR):Prop where
 kind:r.2.2=true->0<=r.1.fKind
 kids:r.2.2=true->r.1.fKids=ks
 wt:r.2.2=true->Va4 r.1<=wC s+wl Va4 ks
 e:r.2.2=true->i<r.2.1/\r.2.1<=s.size+1
theorem BkO.no(s:ByteArray)(i:Int)(ks:List DInline)(x:DInline)(j:Int):BkO s i ks (x,j,false):=⟨λh=>(by cases h),λh=>(by cases h),λh=>(by cases h),λh=>(by cases h)⟩
theorem mkI_w(k:Int)(t d ti:ByteArray)(a:DAttr)(ks:List DInline):Va4 (mkI k t d ti a ks)=t.size+d.size+ti.size+5+Vgw a+wl Va4 ks:=by
 unfold mkI;rw[Vav];simp only[wl,w1,wStr];omega
theorem BkO.yes{s:ByteArray}{i:Int}{ks:List DInline}{k:Int}{t d ti:ByteArray}{a:DAttr}{j:Int}{b:Bool}(hk:0<=k)(ht:t.size<=60)(hd:d.size<=s.size)(hti:ti.size<=s.size)(ha:Vgw a<=100*s.size+200)(hj:i<j/\j<=s.size+1):BkO s i ks (mkI k t d ti a ks,j,b):=
 ⟨λ_=>hk,λ_=>rfl,λ_=>by show Va4 (mkI k t d ti a ks)<=_;rw[mkI_w];unfold wC;omega,λ_=>hj⟩
theorem wAZ(s:ByteArray):Vgw aZ<=100*s.size+200:=by
 have:Vgw aZ=2:=rfl;omega
theorem ephI_b(s:ByteArray)(i:Int)(h0:0<=i)(h1:i<=s.size)(hk:((ephI s i).1 !=0)=true):0<=(ephI s i).1/\i<(ephI s i).2/\(ephI s i).2<=s.size+1:=by
 have hz:∀ p,hpxB (ephR s i) p=true->(p.size:Int)<=s.size-i:=λp hp=>by
  have h2:=hpxB_sz hp;unfold ephR at h2;rw[Vag]at h2;omega
 unfold ephI at hk ⊢;cases c1:hpxB (ephR s i) eEMP with
 |true=>
  have:((7:Nat):Int)<=s.size-i:=hz _ c1;simp only[cond_true];omega
 | false=>
  cases c2:hpxB (ephR s i) eSTG with
  |true=>
   have:((9:Nat):Int)<=s.size-i:=hz _ c2;simp only[cond_true,cond_false];omega
  | false=>
   cases c3:hpxB (ephR s i) eSTK with
   |true=>
    have:((9:Nat):Int)<=s.size-i:=hz _ c3;simp only[cond_true,cond_false];omega
   |false=>
    rw[c1,c2,c3]at hk;simp only[cond_false]at hk;exact absurd hk gj
theorem bkG_o(s:ByteArray)(refs:Int)(b:DElem)(ks:List DInline)(i:Int)(h0:0<=i)(h1:i<=s.size):BkO s i ks (bkG s refs b ks i):=by
 have hT:=tlM_b s i h0
 have hAw:=prsA_w s i
 have hAb:=(prsA_bd s i).2
 have hAw2:=prsA_w s (tlM s i).2.2.2.1
 have hAb2:=(prsA_bd s (tlM s i).2.2.2.1).2
 have e0z:e0.size<=s.size:=Nat.zero_le _
 have e60:e0.size<=60:=Nat.zero_le _;refine Va5 (BkO s i ks) (λht=>?_) (λ_=>?_)
 ·have hte:=hT.e ht;refine Va5 (BkO s i ks) (λ_=>Va5 (BkO s i ks) (λ_=>BkO.no _ _ _ _ _) (λ_=>BkO.yes gj hT.l hT.d hT.t (wAZ s) hte)) (λ_=>Va5 (BkO s i ks) (λq=>BkO.yes gj hT.l hT.d hT.t hAw2 ?_) (λ_=>BkO.yes gj hT.l hT.d hT.t (wAZ s) hte))
  have:=hAb2 (eq_of_beq q);omega
 ·refine Va5 (BkO s i ks) (λ_=>BkO.no _ _ _ _ _) (λ_=>Va5 (BkO s i ks) (λq=>?_) (λ_=>Va5 (BkO s i ks) (λ_=>BkO.no _ _ _ _ _) (λq=>BkO.yes gj e60 e0z e0z hAw ?_)))
  ·have he:=ephI_b s i h0 h1 q;exact BkO.yes he.1 e60 e0z e0z (wAZ s) he.2
  ·have:=hAb (Vah (Vae q).1);omega
end Go.Proofs.YthbpjmogdonlkaaGreatDoor
namespace Go.Proofs.YthbpjmogdonlkaaGreatDoor
open Go Go.Eng
theorem Vc6:∀ l:List (Nat×ABox),Vb8 (l++[glP])=Vb8 l
 |[]=>rfl
 |(i,.vec _ _ _)::l=>congrArg (List.cons i) (Vc6 l)
 |(_,.cells _ _)::l=>Vc6 l
 |(_,.map _ _)::l=>Vc6 l
 |(_,.ge _)::l=>Vc6 l
 |(_,.vck _ _ _)::l=>Vc6 l
 |(_,.it _ _)::l=>Vc6 l
 |(_,.gl _ _)::l=>Vc6 l
 |(_,.mi _ _)::l=>Vc6 l
theorem Vlh{f:FuncId}{args:List SV}{bx bx':List (Nat×ABox)}{res:SV}(h:Va2 Tryz.prog f args bx [] res bx' [])(hid:1999 ∉ bx'.map (·.1)):Va2 Tryz.prog f args (bx++[glP]) [] res (bx'++[glP]) []:=by
 refine⟨h.1,λG w vs hw hr hb hg=>(h.2 G w vs hw hr (λp hp=>hb p (List.mem_append_left _ hp)) hg).mono ?_⟩;rintro e w' ⟨v,G',rfl,s1,s2,s3,s4,s5,s6,s7⟩;refine⟨v,G',rfl,s1,s2,s3,λp hp=>?_,λi hi=>s5 i (λq=>hi ?_),λi hi=>s6 i (by rwa[Vc6]at hi),s7⟩
 ·rcases Zd.1 hp with hp|hp
  ·exact s4 p hp
  ·have e:=Zc.1 hp;rw[e];exact(hb glP ku).persist s1.toExt (s5 1999 hid) (λκ hκ=>by simp[glP,ABox.svs]at hκ)
 ·rw[List.map_append];exact List.mem_append_left _ q
theorem pceG_k3(s:ByteArray)(ka:List Int)(la:List (List Int))(kd:List Int)(ld:List (List Int))(i:Int):(pceG s ka la kd ld i).1.fKind=3->(pceG s ka la kd ld i).1.fTo=i+1:=by
 let Q:DPiece×Bool->Prop:=λr=>r.1.fKind=3->r.1.fTo=i+1
 have kP:∀ {b:Bool} {x y:DPiece×Bool},Q x->Q y->Q (cond b x y):=λ{b x y} h1 h2=>by cases b;exact h2;exact h1
 have n0:∀(r:DPiece×Bool),r.1.fKind=0->Q r:=λr h q=>by rw[h]at q;exact absurd q gj
 have hf:∀(x:DInline×Int)(r:DPiece×Bool),Q r->Q (fdR x r):=λx r h=>kP (n0 _ rfl) h
 have hN:Q (nxR s i):=n0 _ rfl
 have hs:Q (spR s i):=kP (n0 _ rfl) (hf _ _ hN)
 have hr:∀ ka va kd vd,Q (runP s ka va kd vd i):=λka va kd vd=>kP (n0 _ rfl) (λq=>absurd (show(1:Int)=3 from q) gj)
 show Q (pceG s ka la kd ld i);refine kP (hf _ _ hN) (kP hs (kP hs (kP (hf _ _ hN) (kP (hf _ _ (hf _ _ hN)) (kP (hf _ _ (n0 _ rfl)) (kP (hf _ _ hN) (kP (hf _ _ hN) (kP (hf _ _ (hf _ _ (λq=>absurd (show(2:Int)=3 from q) gj))) (kP (kP (λq=>absurd (show(2:Int)=3 from q) gj) hN) (kP (λ_=>rfl) (kP (hr _ _ _ _) (kP (hr _ _ _ _) (kP (hr _ _ _ _) hN)))))))))))))
section
variable {s:ByteArray} {n:Nat} {a:RS}
theorem pcQ_ok(h:RdI s n a)(hlt:a.i<s.size):(a.i<(pcQ s a.i).fTo/\(pcQ s a.i).fTo<=3*s.size+10)/\PW s a.i (pcQ s a.i)/\((pcQ s a.i).fKind=3->(pcQ s a.i).fTo=a.i+1):=by
 have h0:0<=a.i:=by have:=h.i0;omega
 obtain⟨t1,t2⟩:=rnsM_ok s
 have h1:=pceG_pd s (rnsM s).ka (rnsM s).la (rnsM s).kd (rnsM s).ld a.i h0 hlt t1 t2
 have h2:=pceG_pw s (rnsM s).ka (rnsM s).la (rnsM s).kd (rnsM s).ld a.i h0 hlt t1 t2;exact⟨h1,⟨h2.kids,h2.kind,h2.wt,h2.num⟩,pceG_k3 s _ _ _ _ _⟩
theorem RdI.snoc(h:RdI s n a)(hlt:a.i<s.size){i:Int}{e:DElem}{bs:List Int}{r:Int}(hi:a.i<i/\i<=3*s.size+10)(he:EOk s e)(hw:(wE e:Int)<=(wC s:Int)*(i-a.i))(hb:bs=a.brs\/bs=a.brs++[((a.els.length:Nat):Int)])(hr:0<=r/\r<=a.refs+1):RdI s (n+1) ⟨i,a.els++[e],bs,r⟩:=by
 have hi0:=h.i0;have hns:=h.ns;have hlen:=h.len;have hrf:=h.refs
 have hl:(a.els++[e]).length=a.els.length+1:=by simp
 refine⟨by show((n+1:Nat):Int)<=i;omega,hi.2,by omega,by show(a.els++[e]).length<=_;omega,λf hf=>?_,?_,⟨hr.1,by show r<=_;omega⟩,λx hx=>?_,?_⟩
 ·show 0<=f/\f<(((a.els++[e]).length:Nat):Int)
  rw[hl];rcases hb with rfl|rfl
  ·have:=h.brs f hf;omega
  ·rcases Zd.1 hf with hf|hf
   ·have:=h.brs f hf;omega
   ·have:=Zc.1 hf;omega
 ·rcases hb with rfl|rfl
  ·exact h.asc
  ·show(a.brs++[_]).Pairwise _;rw[List.pairwise_append];refine⟨h.asc,List.pairwise_singleton _ _,λx hx y hy=>?_⟩
   have:=h.brs x hx
   have:=Zc.1 hy;omega
 ·rcases Zd.1 hx with hx|hx
  ·exact h.els x hx
  ·rw[Zc.1 hx];exact he
 ·show((wS (a.els++[e]):Nat):Int)<=_;rw[Vlu,wS_one];exact wC_i h.wt _ hw
theorem rfc_b(x:DInline){r:Int}{n:Nat}(h:0<=r/\r<=n):0<=rfc x r/\rfc x r<=r+1:=by
 unfold rfc;cases refB x.fKind with
 |true=>simp only[cond_true];omega
 |false=>simp only[cond_false];omega
theorem PW.w{p:DPiece}(h:PW s a.i p)(hi:a.i<p.fTo/\p.fTo<=3*s.size+10)(h0:0<=a.i)(hs:s.size<=820):Va4 p.fInline<=1073741824:=by
 have h1:=h.wt
 have h2:(wC s:Int)*(p.fTo-a.i)<=(wC s:Int)*(3*s.size+10):=Zl kv kv
 have h3:(wC s:Int)*(3*s.size+10)<=168000*(3*s.size+10):=Zp (by unfold wC;omega) kv;omega
theorem Vpl{l:List Int}{f:Int}(h:l.getLast? =some f):l=l.dropLast++[f]:=by
 have hne:l≠[]:=by intro e;rw[e]at h;simp at h
 rw[List.getLast?_eq_some_getLast hne]at h;simp only[Option.some.injEq]at h;rw[<-h,List.dropLast_concat_getLast]
theorem cls_ok(hs:s.size<=820)(h:RdI s n a)(hlt:a.i<s.size):RdI s (n+1) (clsG s a (a.i+1))/\Va2 Tryz.prog 91 [.ptr 1000 0,jI (a.i+1)] (rdG s a.els a.brs a.refs) [] (jI (clsG s a (a.i+1)).i) (rdG s (clsG s a (a.i+1)).els (clsG s a (a.i+1)).brs (clsG s a (a.i+1)).refs) []:=by
 have hi0:=h.i0;have hns:=h.ns;have hlen:=h.len;have hrf:=h.refs;have hbl:=h.blen
 have hcl:EOk s (inE (txI CLO)):=EOk.leaf gj rfl (by rw[show Va4 (inE (txI CLO)).fpiece.fInline=8 from wE_cl];decide)
 have hwC:17<=wC s:=by unfold wC;omega
 have hwc1:=Vjp s (d:=a.i+1-a.i) kv
 have hw8:(wE (inE (txI CLO)):Int)<=(wC s:Int)*(a.i+1-a.i):=by rw[wE_cl];omega
 cases hg:a.brs.getLast? with
 |none=>
  have hb:a.brs=[]:=List.getLast?_eq_none_iff.1 hg
  have hc:clsG s a (a.i+1)=⟨a.i+1,a.els++[inE (txI CLO)],[],a.refs⟩:=by unfold clsG;rw[hg]
  rw[hc,hb];refine⟨?_,cls0_to s a.els a.refs (a.i+1) kv kv⟩;exact h.snoc hlt kv hcl hw8 (.inl hb.symm) kv
 | some f=>
  have hbs:=Vpl hg
  have hfm:f∈a.brs:=by rw[hbs];simp
  have hf:=h.brs f hfm
  have hbm:∀ x∈a.brs.dropLast,0<=x/\x<f:=λx hx=>by
   have h1:=h.asc;rw[hbs,List.pairwise_append]at h1;exact⟨(h.brs x (Zj _ hx)).1,h1.2.2 x hx f ku⟩
  have hba:a.brs.dropLast.Pairwise (· < ·):=h.asc.sublist (List.dropLast_sublist _)
  have hft:((f.toNat:Nat):Int)=f:=by omega
  have hto:(f+1).toNat=f.toNat+1:=by omega
  obtain⟨N1,N2,N3⟩:=h.nsg hs (f.toNat+1) (a.els.length-(f.toNat+1)) kv
  have hnest:=nesG_to a.els (f.toNat+1) (a.els.length-(f.toNat+1)) kv kv N1 N2
  have hbk:=bkG_to s a.els a.brs.dropLast a.refs (el a.els f.toNat) (f.toNat+1) (a.i+1) kv kv kv hnest
  have hO:=bkG_o s a.refs (el a.els f.toNat) (nstG a.els (f.toNat+1) (a.els.length-(f.toNat+1))) (a.i+1) kv kv
  have hkw:=nstG_w N1
  have hkc:=nstG_cl N1
  have hbl2:a.brs.dropLast.length<=1073741824:=by simp;omega
  have hc:clsG s a (a.i+1)=cond (bkO s a f.toNat (a.i+1)).2.2 (yesE a f.toNat a.brs.dropLast (bkO s a f.toNat (a.i+1))) (noE a f.toNat a.brs.dropLast (a.i+1)):=by unfold clsG;rw[hg]
  rw[hc];obtain⟨r,hr⟩:∃ r,r=bkO s a f.toNat (a.i+1):=⟨_,rfl⟩
  rw[<-hr];unfold bkO at hr;rw[<-hr]at hbk hO
  have hsp:=Vj8 a.els f.toNat
  have hel:=el_cons (els:=a.els) (f:=f.toNat) kv;rw[hel,wS_cons]at hsp;obtain⟨x,j,ok⟩:=r;cases ok with
  | true=>
   rw[cond_true]
   have hx1:=hO.kind rfl;have hx2:=hO.kids rfl;have hx3:=hO.wt rfl;have hx4:=hO.e rfl;simp only at hx1 hx2 hx3 hx4
   have htot:=h.tot hs
   have hrb:=rfc_b x hrf
   have htk:(a.els.take f.toNat).length=f.toNat:=by rw[List.length_take];omega
   refine⟨⟨by show((n+1:Nat):Int)<=j;omega,by show j<=_;omega,by omega,by show(a.els.take f.toNat++[inE x]).length<=_;rw[Ze,htk];simp;omega,λy hy=>?_,hba,⟨hrb.1,by show rfc x a.refs<=_;omega⟩,λe he=>?_,?_⟩,?_⟩
   ·have:=hbm y hy
    show 0<=y/\y<(((a.els.take f.toNat++[inE x]).length:Nat):Int)
    rw[Ze,htk];simp;omega
   ·rcases Zd.1 he with he|he
    ·exact h.els e (List.mem_of_mem_take he)
    ·rw[Zc.1 he];refine⟨Vaj.2 ⟨by show x.fKind≠ -1;omega,λy hy=>?_⟩,λq=>absurd rfl q,?_⟩
     ·have hy:y∈x.fKids:=hy;rw[hx2]at hy;exact hkc y hy
     ·show Va4 x<=_
      have:wC s<=168000:=by unfold wC;omega
      omega
   ·show((wS (a.els.take f.toNat++[inE x]):Nat):Int)<=(wC s:Int)*j;rw[Vlu,wS_one,wE_in]
    have h5:=wC_i (j:=j) h.wt (wC s) (Vjp s kv);omega
   ·have:=cls2_to s a.els a.brs.dropLast f a.refs (a.i+1) x j (by rw[hto];exact hbk) kv kv hbl2 kv;rw[<-hbs]at this;exact this
  | false=>
   rw[cond_false]
   have hsg:(sgnI (el a.els f.toNat).fimage).size<=2:=by cases(el a.els f.toNat).fimage <;>decide
   have hws:=wS_set (els:=a.els) (f:=f.toNat) kv (txtE (sgnI (el a.els f.toNat).fimage));rw[wE_txt]at hws
   have htx:EOk s (txtE (sgnI (el a.els f.toNat).fimage)):=EOk.leaf (by show(0:Int)<=1;decide) rfl (by rw[show Va4 (txtE (sgnI (el a.els f.toNat).fimage)).fpiece.fInline=_ from wE_txt _];omega)
   have hsl:(a.els.set f.toNat (txtE (sgnI (el a.els f.toNat).fimage))).length=a.els.length:=by simp
   refine⟨⟨by show((n+1:Nat):Int)<=a.i+1;omega,by show a.i+1<=_;omega,by omega,by show(a.els.set _ _++[_]).length<=_;rw[Ze,hsl];simp;omega,λy hy=>?_,hba,⟨hrf.1,by show a.refs<=_;omega⟩,λe he=>?_,?_⟩,?_⟩
   ·have:=hbm y hy
    show 0<=y/\y<(((a.els.set _ _++[_]).length:Nat):Int)
    rw[Ze,hsl];simp;omega
   ·rcases Zd.1 he with he|he
    ·rcases Zn he with he|he
     ·exact h.els e he
     ·rw[he];exact htx
    ·rw[Zc.1 he];exact hcl
   ·show((wS (a.els.set _ _++[_]):Nat):Int)<=(wC s:Int)*(a.i+1)
    rw[Vlu,wS_one,wE_cl]
    have h5:=wC_i (j:=a.i+1) h.wt 17 kv;omega
   ·have:=cls1_to s a.els a.brs.dropLast f a.refs (a.i+1) x j (by rw[hto];exact hbk) kv kv hbl2 kv;rw[<-hbs]at this;exact this
theorem rdB_ids(s:ByteArray)(els:List DElem)(brs:List Int)(refs:Int):1999 ∉ (rdB s els brs refs).map (·.1):=by show 1999 ∉ [1000,2001,2002];decide
theorem step_ok(hs:s.size<=820)(h:RdI s n a)(hlt:a.i<s.size):RdI s (n+1) (pieG s a (pcQ s a.i))/\Va2 Tryz.prog 52 [.ptr 1000 0,.av (Vbo (pcQ s a.i))] (rdG s a.els a.brs a.refs) [] (jI (pieG s a (pcQ s a.i)).i) (rdG s (pieG s a (pcQ s a.i)).els (pieG s a (pcQ s a.i)).brs (pieG s a (pcQ s a.i)).refs) []:=by
 have hi0:=h.i0;have hns:=h.ns;have hlen:=h.len;have hrf:=h.refs;have hbl:=h.blen;obtain⟨hp,hw,h3⟩:=pcQ_ok h hlt;obtain⟨p,hpq⟩:∃ p,p=pcQ s a.i:=⟨_,rfl⟩
 rw[<-hpq]at hp hw h3 ⊢
 have hwi:=hw.w hp kv hs
 have hwt:=hw.wt;have hnm:=hw.num;have hkd:=hw.kind;unfold pieG;cases k1:(p.fKind==1)with
 |true=>
  rw[cond_true];refine⟨h.snoc hlt hp (EOk.leaf hw.kind hw.kids hwi) ?_ (.inl rfl) kv,Vlh (pRun_to s a.els a.brs a.refs p kv (eq_of_beq k1)) (rdB_ids _ _ _ _)⟩
  show((cond (isrP p) (20*p.fN.toNat) (Va4 p.fInline):Nat):Int)<=_;cases isrP p with
  |true=>simp only[cond_true];have:=Vb5 p.fInline;omega
  |false=>simp only[cond_false];exact hwt
 | false=>
  rw[cond_false];cases k2:(p.fKind==2)with
  |true=>
   rw[cond_true]
   have h7:Va4 (DInline.mk 0 ⟨#[]⟩ ⟨#[]⟩ ⟨#[]⟩ ⟨⟨#[]⟩,[],[]⟩ [] [] [])=7:=by rw[wIx];rfl
   have hpos:=Vb5 p.fInline
   have hwc1:=Vjp s (d:=p.fTo-a.i) kv
   have hwC:17<=wC s:=by unfold wC;omega
   refine⟨h.snoc hlt hp (EOk.leaf (Int.le_refl _) rfl (by show Va4 (DInline.mk 0 ⟨#[]⟩ ⟨#[]⟩ ⟨#[]⟩ ⟨⟨#[]⟩,[],[]⟩ [] [] [])<=_;rw[h7];decide)) ?_ (.inr rfl) kv,Vlh (pOpn_to s a.els a.brs a.refs p kv kv (eq_of_beq k2)) (rdB_ids _ _ _ _)⟩
   show((Va4 (DInline.mk 0 ⟨#[]⟩ ⟨#[]⟩ ⟨#[]⟩ ⟨⟨#[]⟩,[],[]⟩ [] [] []):Nat):Int)<=_;rw[h7];omega
  | false=>
   rw[cond_false];cases k3:(p.fKind==3)with
   |true=>
    rw[cond_true,h3 (eq_of_beq k3)];obtain⟨q1,q2⟩:=cls_ok hs h hlt;refine⟨q1,pCls_to s a.els _ a.brs _ a.refs _ p _ (eq_of_beq k3) ?_⟩;rw[h3 (eq_of_beq k3)];exact q2
   |false=>
    rw[cond_false]
    have hrb:=rfc_b p.fInline hrf;exact⟨h.snoc hlt hp (EOk.leaf hw.kind hw.kids hwi) hwt (.inl rfl) hrb,Vlh (pOth_to s a.els a.brs a.refs p kv kv (by simpa using k1) (by simpa using k2) (by simpa using k3)) (rdB_ids _ _ _ _)⟩
end
end Go.Proofs.YthbpjmogdonlkaaGreatDoor
namespace Go.Proofs.YthbpjmogdonlkaaGreatDoor
open Go Go.Eng
def skB(p:Int)(x:DInline):Bool:=cond ((x.fKind:Int)==2) (cond (p==2) true (p==3)) false
mutual
def ibI:DInline->DInline
 |⟨y0,y1,y2,y3,y4,y5,y6,y7⟩=>⟨y0,y1,y2,y3,y4,y5,y6,ibK 0 y7⟩
def ibK:Int->List DInline->List DInline
 |_,[]=>[]
 |p,x::l=>cond (skB p x) (ibK x.fKind l) (ibI x::ibK x.fKind l)
end
theorem Vpp(x:DInline):ibI x={x with fKids:=ibK 0 x.fKids}:=by cases x;rw[ibI]
def pkd(l:List DInline)(v:Nat):Int:=cond (Nat.beq v 0) 0 (el l (v-1)).fKind
theorem pkd_s(l:List DInline)(v:Nat):pkd l (v+1)=(el l v).fKind:=rfl
theorem Vnv{l:List DInline}{v:Nat}(h:v<l.length):l.drop v=el l v::l.drop (v+1):=by
 rw[List.drop_eq_getElem_cons h];simp[el,h]
theorem inb_to:∀(n:Nat)(l:List DInline),SizeOf.sizeOf l<n->wl Va4 l<=1073741824->Va2 Tryz.prog 56 [jL (l.map Va3)] [] [] (jL ((ibK 0 l).map Va3)) [] []:=by
 intro n
 induction n with
 |zero=>intro l h;omega
 | succ n ih=>
  intro l hsz hw
  have hlq:=Va6 Va3 l
  have hl:=Vd8 (w:=Va4) Vb5 l;refine bG Tryz.func56 ?_;refine gO (tn 5 z) ?_;refine TELL 3 3 42 10 kx ?_;refine LP (n:=l.length+1) (λN M S=>∃(v:Nat)(out:List DInline),v<=l.length/\out.length<=v/\out++ibK (pkd l v) (l.drop v)=ibK 0 l/\l.length-v<N/\M=()/\S=sx 53 [(0,jL (l.map Va3)),(3,.vs 3 out.length),(7,jI ((lenM Va3 l:Nat):Int)),(8,jI ((v:Nat):Int))] [(3,.vec 42 10 (out.map Va3))] []) kx ⟨0,[],by omega,by simp,rfl,by omega,rfl,rfl⟩ (WK kx) ?_;rintro n0 M S ⟨v,out,hv,hol,hm,hF0,rfl,rfl⟩;obtain⟨n0,rfl⟩:∃ k,n0=k+1:=⟨n0-1,by omega⟩
  by_cases h1:v<l.length
  ·have hd:decide (((v:Nat):Int)<((lenM Va3 l:Nat):Int))=true:=dT kv
   have he':=Vb1 l v h1
   have w2:=wrE (((v:Nat):Int)+1) ((v+1:Nat):Int) kv
   have hx:=Vcp (l:=l) (i:=v) h1
   have hs1:=List.sizeOf_lt_of_mem hx
   have hs2:SizeOf.sizeOf (el l v).fKids<SizeOf.sizeOf (el l v):=by
    cases(el l v);simp only[DInline.mk.sizeOf_spec];omega
   have hc:=ih (el l v).fKids kv (by have:=Vip (w:=Va4) hx;have:=Vjm (x:=el l v);omega)
   have hpos:∀ h:True/\cond (((el l v).fKind:Int)==2) (decide (((v:Nat):Int)>0)) false=true,0<v:=λh=>by
    have:=of_decide_eq_true (Va9 h.2).2;omega
   have w1:∀ h:True/\cond (((el l v).fKind:Int)==2) (decide (((v:Nat):Int)>0)) false=true,IntKind.i64.wrap (((v:Nat):Int)-1)=((v-1:Nat):Int):=λh=>wrE _ _ (by have:=hpos h;omega)
   have he1:∀ h:True/\cond (((el l v).fKind:Int)==2) (decide (((v:Nat):Int)>0)) false=true,_:=λh=>Vb1 l (v-1) kv
   have hbk:cond (cond (((el l v).fKind:Int)==2) (decide (((v:Nat):Int)>0)) false) (cond (((el l (v-1)).fKind:Int)==2) true (((el l (v-1)).fKind:Int)==3)) false=skB (pkd l v) (el l v):=by
    unfold skB pkd;cases((el l v).fKind:Int)==2 with
    |false=>rfl
    | true=>
     cases v with
     |zero=>rfl
     |succ v=>
      rw[cond_true,dT kv];rfl
   cases hsk:skB (pkd l v) (el l v)with
   |true=>
    rw[hsk]at hbk;refine gO (tn 1 (kb hd (tn 4 (ke he' (tn 4 (kj (((el l v).fKind:Int)==2) (tn 2 z) z (tn 1 (kj (cond (((el l v).fKind:Int)==2) (decide (((v:Nat):Int)>0)) false) (tn 2 (hn w1 (he he1 (tn 4 (kj (((el l (v-1)).fKind:Int)==2) z (tn 2 (hn (λh=>w1 h.1) (he (λh=>he1 h.1) (tn 3 z)))) z))))) z (kb hbk (kn w2 (tn 1 z))))))))))) ?_;refine AG (m:=n0) ⟨v+1,out,by omega,by omega,?_,by omega,rfl,rfl⟩ (WK kx) kx (Za _);rw[pkd_s, <-hm,Vnv h1,ibK,hsk];rfl
   |false=>
    rw[hsk]at hbk
    have hap:out.length<=(out.map Va3).length/\Uni 10 [Vap (ibI (el l v))]/\(out.length+([Vap (ibI (el l v))]:List AV).length)*192<=140737488355328:=⟨by simp,uniI _,by simp;omega⟩
    have hun:Uni 10 [Vap (ibI (el l v))]:=uniI _;rw[Vpp]at hap hun;refine gO (tn 1 (kb hd (tn 4 (ke he' (tn 4 (kj (((el l v).fKind:Int)==2) (tn 2 z) z (tn 1 (kj (cond (((el l v).fKind:Int)==2) (decide (((v:Nat):Int)>0)) false) (tn 2 (hn w1 (he he1 (tn 4 (kj (((el l (v-1)).fKind:Int)==2) z (tn 2 (hn (λh=>w1 h.1) (he (λh=>he1 h.1) (tn 3 z)))) z))))) z (kb hbk (tn 2 (ke he' (tn 5 (kc hc (tn 4 (kp hun (kp hap (tn 1 (kn w2 (tn 1 z))))))))))))))))))) ?_;refine AG (m:=n0) (S'':=sx 53 [(0,jL (l.map Va3)),(3,.vs 3 (out.length+1)),(7,jI ((lenM Va3 l:Nat):Int)),(8,jI ((v+1:Nat):Int))] [(3,.vec 42 10 ((out.map Va3).take out.length++[Vap {el l v with fKids:=ibK 0 (el l v).fKids}]))] []) ⟨v+1,out++[ibI (el l v)],by omega,by simp;omega,?_,by omega,rfl,?_⟩ (WK kx) kx (Za _)
    ·rw[pkd_s, <-hm,Vnv h1,ibK,hsk];simp
    ·rw[Ze,Zg ku, <-Vpp,ap1_aInline];rfl
  ·have hd:decide (((v:Nat):Int)<((lenM Va3 l:Nat):Int))=false:=dF kv
   have hvl:v=l.length:=by omega
   subst hvl;rw[List.drop_eq_nil_of_le (Nat.le_refl _),ibK,List.append_nil]at hm;subst hm;refine gO (tn 1 (kb hd z)) ?_;refine OUT (kq 10 z) kx ?_;refine FRZ 3 3 (n:=(ibK 0 l).length) (l:=(ibK 0 l).map Va3) (l':=(ibK 0 l).map Va3) kx ku (by rw[Zg ku]) ?_;refine gO (tn 2 z) ?_;exact eN
def isBk(x:DInline):Bool:=cond ((x.fKind:Int)==2) true ((x.fKind:Int)==3)
def obT:Nat->List DInline->List DInline
 |0,l=>l
 |n+1,l=>cond (decide (0<l.length)) (cond (isBk (el l (l.length-1))) (obT n l.dropLast) l) l
def obH(l:List DInline):List DInline:=cond (cond (decide (0<l.length)) ((el l 0).fKind==2) false) (l.drop 1) l
def obM(l:List DInline):List DInline:=obT l.length (obH l)
theorem obH_len(l:List DInline):(obH l).length<=l.length:=by
 unfold obH;cases cond (decide (0<l.length)) ((el l 0).fKind==2) false with
 |true=>simp
 |false=>exact Nat.le_refl _
theorem obT_stop{l:List DInline}(t:Nat)(h:cond (decide (0<l.length)) (isBk (el l (l.length-1))) false=false):obT t l=l:=by
 cases t with
 |zero=>rfl
 | succ t=>
  unfold obT;cases hd:decide (0<l.length)with
  |false=>rfl
  |true=>
   rw[hd,cond_true]at h;rw[cond_true,h];rfl
theorem obT_step{l:List DInline}(t:Nat)(h:cond (decide (0<l.length)) (isBk (el l (l.length-1))) false=true):obT (t+1) l=obT t l.dropLast:=by
 obtain⟨h1,h2⟩:=Va9 h;rw[obT,h1,h2];rfl
def obS(q:List DInline):St:=sx 44 [(0,jL (q.map Va3))] [] []
theorem oub_to(l:List DInline)(hl:l.length<=1073741824):Va2 Tryz.prog 55 [jL (l.map Va3)] [] [] (jL ((obM l).map Va3)) [] []:=by
 have hlq:=Va6 Va3 l
 have hb0:cond (decide (((lenM Va3 l:Nat):Int)>0)) (((el l 0).fKind:Int)==2) false=cond (decide (0<l.length)) ((el l 0).fKind==2) false:=by
  rw[hlq];congr 1;exact decide_eq_decide.2 kv
 have e0:∀ h:True/\decide (((lenM Va3 l:Nat):Int)>0)=true,_:=λh=>Vb1 l 0 (by have:=of_decide_eq_true h.2;omega)
 refine bG Tryz.func55 ?_;cases hh:cond (decide (0<l.length)) ((el l 0).fKind==2) false
 case' true=>
  have hb:=hb0.trans hh
  have hq:obH l=l.drop 1:=by unfold obH;rw[hh];rfl
  have hpos:0<l.length:=of_decide_eq_true (Va9 hh).1
  have hcut:(0:Int)<=1/\(1:Int)<=((lenM Va3 l:Nat):Int)/\((lenM Va3 l:Nat):Int)<=((lenM Va3 l:Nat):Int)/\Uni 10 (l.map Va3):=⟨by decide,by omega,Int.le_refl _,Vjq l⟩
  have hcw:((l.map Va3).drop (1:Int).toNat).take (((lenM Va3 l:Nat):Int).toNat-(1:Int).toNat)=(l.drop 1).map Va3:=by
   rw[List.map_drop,Zg]
   ·rfl
   ·rw[List.length_drop,Zr,hlq];show l.length-1<=l.length-1;omega
  refine gO (tn 5 (kj (decide (((lenM Va3 l:Nat):Int)>0)) (tn 1 (he e0 (tn 3 z))) z (kb hb (tn 1 (kp hcut (kw hcw (tn 1 z))))))) ?_
 case' false=>
  have hb:=hb0.trans hh
  have hq:obH l=l:=by unfold obH;rw[hh];rfl
  refine gO (tn 5 (kj (decide (((lenM Va3 l:Nat):Int)>0)) (tn 1 (he e0 (tn 3 z))) z (kb hb z))) ?_
 all_goals
  refine LP (n:=l.length+1) (λN M S=>∃(k:Nat)(q:List DInline),q.length<=k/\k<=l.length/\obT k q=obM l/\q.length<N/\M=()/\S=obS q) kx ⟨l.length,obH l,obH_len l,Nat.le_refl _,rfl,by have:=obH_len l;omega,rfl,rfl⟩ (by unfold obS;rw[hq];exact WK kx) ?_;rintro n0 M S ⟨k,q,hqk,hkl,hm,hF0,rfl,rfl⟩;obtain⟨n0,rfl⟩:∃ k,n0=k+1:=⟨n0-1,by omega⟩
  have hq2:=Va6 Va3 q
  have w1:∀ h:True/\decide (((lenM Va3 q:Nat):Int)>0)=true,IntKind.i64.wrap (((lenM Va3 q:Nat):Int)-1)=((q.length-1:Nat):Int):=λh=>wrE _ _ (by have:=of_decide_eq_true h.2;omega)
  have e1:∀ h:True/\decide (((lenM Va3 q:Nat):Int)>0)=true,_:=λh=>Vb1 q (q.length-1) (by have:=of_decide_eq_true h.2;omega)
  have hc0:cond (decide (((lenM Va3 q:Nat):Int)>0)) (cond (((el q (q.length-1)).fKind:Int)==2) true (((el q (q.length-1)).fKind:Int)==3)) false=cond (decide (0<q.length)) (isBk (el q (q.length-1))) false:=by
   rw[hq2];congr 1;exact decide_eq_decide.2 kv
  cases hc:cond (decide (0<q.length)) (isBk (el q (q.length-1))) false with
  |false=>
   have hc1:=hc0.trans hc;rw[obT_stop k hc]at hm;rw[<-hm];refine gO (tn 4 (kj (decide (((lenM Va3 q:Nat):Int)>0)) (tn 3 (hn w1 (he e1 (tn 4 (kj (((el q (q.length-1)).fKind:Int)==2) z (tn 3 (hn (λh=>w1 h.1) (he (λh=>e1 h.1) (tn 3 z)))) z))))) z (kb hc1 z))) ?_;refine OUT (tn 2 z) kx ?_;exact eN
  | true=>
   have hc1:=hc0.trans hc
   have hpos2:0<q.length:=of_decide_eq_true (Va9 hc).1;obtain⟨k,rfl⟩:∃ i,k=i+1:=⟨k-1,by omega⟩
   rw[obT_step k hc]at hm
   have w2:=w1 ⟨trivial,dT kv⟩
   have hct:(0:Int)<=0/\(0:Int)<=((q.length-1:Nat):Int)/\((q.length-1:Nat):Int)<=((lenM Va3 q:Nat):Int)/\Uni 10 (q.map Va3):=⟨by decide,by omega,by omega,Vjq q⟩
   have hcv:((q.map Va3).drop (0:Int).toNat).take (((q.length-1:Nat):Int).toNat-(0:Int).toNat)=q.dropLast.map Va3:=by
    show((q.map Va3).drop 0).take (q.length-1-0)=_;rw[List.drop_zero,Nat.sub_zero,List.dropLast_eq_take,List.map_take]
   refine gO (tn 4 (kj (decide (((lenM Va3 q:Nat):Int)>0)) (tn 3 (hn w1 (he e1 (tn 4 (kj (((el q (q.length-1)).fKind:Int)==2) z (tn 3 (hn (λh=>w1 h.1) (he (λh=>e1 h.1) (tn 3 z)))) z))))) z (kb hc1 (tn 3 (kn w2 (kp hct (kw hcv (tn 1 z)))))))) ?_;exact AG (m:=n0) ⟨k,q.dropLast,by simp;omega,by omega,hm,by simp;omega,rfl,rfl⟩ (WK kx) kx (Za _)
mutual
def dpI:DInline->Nat
 |⟨_,_,_,_,_,_,_,y7⟩=>1+dpL y7
def dpL:List DInline->Nat
 |[]=>0
 |x::l=>max (dpI x) (dpL l)
end
theorem dpI_eq(x:DInline):dpI x=1+dpL x.fKids:=by cases x;rw[dpI]
theorem wI_kids(x:DInline):wl Va4 x.fKids+1<=Va4 x:=by rw[Vav];omega
theorem dpL_of{l:List DInline}(h:∀ x∈l,dpI x<=Va4 x):dpL l<=wl Va4 l:=by
 induction l with
 |nil=>exact Nat.le_refl _
 |cons x l ih=>
  have h1:=h x ku
  have h2:=ih (λy hy=>h y (by simp[hy]));rw[dpL,wl];omega
theorem dpI_w:∀ x,dpI x<=Va4 x:=Vck λx ih=>by
 have:=dpL_of ih
 have:=wI_kids x;rw[dpI_eq];omega
theorem dpL_w(l:List DInline):dpL l<=wl Va4 l:=dpL_of (λx _=>dpI_w x)
mutual
def szI:DInline->Nat
 |⟨_,_,_,_,_,_,_,y7⟩=>szL y7
def szL:List DInline->Nat
 |[]=>0
 |x::l=>1+szI x+szL l
end
theorem szI_eq(x:DInline):szI x=szL x.fKids:=by cases x;rw[szI]
theorem szL_of{l:List DInline}(h:∀ x∈l,szI x+1<=Va4 x):szL l<=wl Va4 l:=by
 induction l with
 |nil=>exact Nat.le_refl _
 |cons x l ih=>
  have h1:=h x ku
  have h2:=ih (λy hy=>h y (by simp[hy]));rw[szL,wl];omega
theorem szI_w:∀ x,szI x+1<=Va4 x:=Vck λx ih=>by
 have:=szL_of ih
 have:=wI_kids x;rw[szI_eq];omega
theorem szL_w(l:List DInline):szL l<=wl Va4 l:=szL_of (λx _=>szI_w x)
theorem kid_sz{l:List DInline}{v n:Nat}(h1:v<l.length)(hs:SizeOf.sizeOf l<n+1)(hw:wl Va4 l<=1073741824):SizeOf.sizeOf (el l v).fKids<n/\wl Va4 (el l v).fKids<=1073741824:=by
 have hx:=Vcp (l:=l) (i:=v) h1
 have hs1:=List.sizeOf_lt_of_mem hx
 have hs2:SizeOf.sizeOf (el l v).fKids<SizeOf.sizeOf (el l v):=by
  cases(el l v);simp only[DInline.mk.sizeOf_spec];omega
 have:=Vip (w:=Va4) hx
 have:=Vjm (x:=el l v);exact⟨by omega,by omega⟩
theorem depth_to:∀(n:Nat)(l:List DInline),SizeOf.sizeOf l<n->wl Va4 l<=1073741824->Va2 Tryz.prog 25 [jL (l.map Va3)] [] [] (jI ((dpL l:Nat):Int)) [] []:=by
 intro n
 induction n with
 |zero=>intro l h;omega
 | succ n ih=>
  intro l hsz hw
  have hlq:=Va6 Va3 l
  have hl:=Vd8 (w:=Va4) Vb5 l;refine bG Tryz.func25 ?_;refine gO (tn 5 z) ?_;refine LP (n:=l.length+1) (λN M S=>∃(v m:Nat),v<=l.length/\max m (dpL (l.drop v))=dpL l/\l.length-v<N/\M=()/\S=sx 21 [(0,jL (l.map Va3)),(3,jI ((m:Nat):Int)),(6,jI ((lenM Va3 l:Nat):Int)),(7,jI ((v:Nat):Int))] [] []) kx ⟨0,0,by omega,by simp,by omega,rfl,rfl⟩ (WK kx) ?_;rintro n0 M S ⟨v,m,hv,hm,hF0,rfl,rfl⟩;obtain⟨n0,rfl⟩:∃ k,n0=k+1:=⟨n0-1,by omega⟩
  by_cases h1:v<l.length
  ·have hd:decide (((v:Nat):Int)<((lenM Va3 l:Nat):Int))=true:=dT kv;obtain⟨k1,k2⟩:=kid_sz h1 hsz hw
   have hc:=ih (el l v).fKids k1 k2
   have hb:=dpL_w (el l v).fKids;rw[Vnv h1,dpL,dpI_eq]at hm
   have w1:=wrE (1+((dpL (el l v).fKids:Nat):Int)) ((1+dpL (el l v).fKids:Nat):Int) kv
   have w2:=wrE (((v:Nat):Int)+1) ((v+1:Nat):Int) kv;refine gO (tn 1 (kb hd (tn 5 (ke (Vb1 l v h1) (tn 2 (kc hc (kn w1 (tn 2 (kn w2 (tn 1 z)))))))))) ?_;refine AG (m:=n0) (S'':=sx 21 [(0,jL (l.map Va3)),(3,jI ((max m (1+dpL (el l v).fKids):Nat):Int)),(6,jI ((lenM Va3 l:Nat):Int)),(7,jI ((v+1:Nat):Int))] [] []) ⟨v+1,max m (1+dpL (el l v).fKids),by omega,by omega,by omega,rfl,rfl⟩ ?_ kx (Za _);rw[show((max m (1+dpL (el l v).fKids):Nat):Int)=max ((m:Nat):Int) ((1+dpL (el l v).fKids:Nat):Int) by omega];exact WK kx
  ·have hd:decide (((v:Nat):Int)<((lenM Va3 l:Nat):Int))=false:=dF kv;rw[List.drop_eq_nil_of_le kv,dpL,Nat.max_zero]at hm;subst hm;refine gO (tn 1 (kb hd z)) ?_;refine OUT (tn 2 z) kx ?_;exact eN
def szK(l:List DInline):Nat:=(l.map szI).sum
theorem szK_cons(x:DInline)(l:List DInline):szK (x::l)=szI x+szK l:=by simp[szK]
theorem szL_K:∀ l:List DInline,szL l=l.length+szK l
 |[]=>rfl
 |x::l=>by rw[szL,szL_K l,szK_cons,List.length_cons];omega
theorem szl_to:∀(n:Nat)(l:List DInline),SizeOf.sizeOf l<n->wl Va4 l<=1073741824->Va2 Tryz.prog 96 [jL (l.map Va3)] [] [] (jI ((szL l:Nat):Int)) [] []:=by
 intro n
 induction n with
 |zero=>intro l h;omega
 | succ n ih=>
  intro l hsz hw
  have hlq:=Va6 Va3 l
  have hl:=Vd8 (w:=Va4) Vb5 l
  have hK:=szL_K l
  have hW:=szL_w l;refine bG Tryz.func96 ?_;refine gO (tn 7 z) ?_;refine LP (n:=l.length+1) (λN M S=>∃(v m:Nat),v<=l.length/\m+szK (l.drop v)=szL l/\l.length-v<N/\M=()/\S=sx 22 [(0,jL (l.map Va3)),(3,jI ((m:Nat):Int)),(8,jI ((lenM Va3 l:Nat):Int)),(9,jI ((v:Nat):Int))] [] []) kx ⟨0,lenM Va3 l,by omega,by rw[hlq];exact hK.symm,by omega,rfl,rfl⟩ (WK kx) ?_;rintro n0 M S ⟨v,m,hv,hm,hF0,rfl,rfl⟩;obtain⟨n0,rfl⟩:∃ k,n0=k+1:=⟨n0-1,by omega⟩
  by_cases h1:v<l.length
  ·have hd:decide (((v:Nat):Int)<((lenM Va3 l:Nat):Int))=true:=dT kv;obtain⟨k1,k2⟩:=kid_sz h1 hsz hw
   have hc:=ih (el l v).fKids k1 k2;rw[Vnv h1,szK_cons,szI_eq]at hm
   have w1:=wrE (((m:Nat):Int)+((szL (el l v).fKids:Nat):Int)) ((m+szL (el l v).fKids:Nat):Int) kv
   have w2:=wrE (((v:Nat):Int)+1) ((v+1:Nat):Int) kv;refine gO (tn 1 (kb hd (tn 5 (ke (Vb1 l v h1) (tn 2 (kc hc (kn w1 (tn 1 (kn w2 (tn 1 z)))))))))) ?_;exact AG (m:=n0) ⟨v+1,m+szL (el l v).fKids,by omega,by omega,by omega,rfl,rfl⟩ (WK kx) kx (Za _)
  ·have hd:decide (((v:Nat):Int)<((lenM Va3 l:Nat):Int))=false:=dF kv;rw[List.drop_eq_nil_of_le kv,show szK []=0 from rfl,Nat.add_zero]at hm;subst hm;refine gO (tn 1 (kb hd z)) ?_;refine OUT (tn 2 z) kx ?_;exact eN
def blk1(l:List DInline):AV:=.agg [vI 0,vI 0,vS ⟨#[]⟩,vS ⟨#[]⟩,vS ⟨#[]⟩,vS ⟨#[]⟩,vS ⟨#[]⟩,.sl [],.sl [],.sl (l.map Va3),.sl []]
theorem szb0_to:Va2 Tryz.prog 58 [jL []] [] [] (jI 0) [] []:=by
 refine bG Tryz.func58 ?_;refine gO (tn 7 z) ?_;refine uN (sx 29 [(3,jI 0),(8,jI 0),(9,jI 0)] [] []) 1 ?_;refine gO (tn 1 (kb (b:=decide ((0:Int)<(0:Int))) (d:=false) rfl z)) ?_;refine uO (tn 2 z) ?_;exact eN
theorem szb1_to(l:List DInline)(hw:wl Va4 l<=1073741823):Va2 Tryz.prog 58 [jL [blk1 l]] [] [] (jI ((1+szL l:Nat):Int)) [] []:=by
 have hz:=szL_w l
 have hc:=szl_to _ l (Za _) kv
 have hc0:=szb0_to
 have w1:=wrE (((szL l:Nat):Int)+0) ((szL l:Nat):Int) kv
 have w2:=wrE (1+((szL l:Nat):Int)) ((1+szL l:Nat):Int) kv
 have he:0<=(0:Int)/\([blk1 l]:List AV)[(0:Int).toNat]? =some (blk1 l):=⟨by decide,rfl⟩
 refine bG Tryz.func58 ?_;refine gO (tn 7 z) ?_;refine uN (sx 29 [(0,jL [blk1 l]),(3,jI 1),(8,jI 1),(9,jI 0)] [] []) 2 ?_;refine gO (tn 1 (kb (b:=decide ((0:Int)<(1:Int))) (d:=true) rfl (tn 2 z))) ?_;refine DR3 (tn 3 (ko (eO he) (kp he (tn 2 (ko (cO hc) (kp hc (tn 3 (ko (eO he) (kp he (tn 2 (ko (cO hc0) (kp hc0 (tn 1 (ko (nO w1) (kp w1 (ko (nO w2) (kp w2 (tn 1 (kn (wrE ((0:Int)+1) 1 kv) (tn 1 z)))))))))))))))))))) kx kx kx ?_;refine uA (sx 29 [(0,jL [blk1 l]),(3,jI ((1+szL l:Nat):Int)),(8,jI 1),(9,jI 1)] [] []) ?_;refine gO (tn 1 (kb (b:=decide ((1:Int)<(1:Int))) (d:=false) rfl z)) ?_;refine uO (tn 2 z) ?_;exact eN
theorem size_to(l:List DInline)(hw:wl Va4 l<=1073741823):Va2 Tryz.prog 24 [.av (.agg [.sl [],.sl [blk1 l]])] [] [] (jI ((1+szL l:Nat):Int)) [] []:=by
 have hc:=szb1_to l hw;refine bG Tryz.func24 ?_;refine gO (tn 4 (kc hc (tn 1 z))) ?_;exact eN
def runG(s:ByteArray):Nat->RS->RS
 |0,a=>a
 |n+1,a=>cond (decide (a.i<s.size)) (runG s n (pieG s a (pcQ s a.i))) a
def fixE(els:List DElem)(k:Int):List DElem:=els.set k.toNat (txtE (sgnI (el els k.toNat).fimage))
def fixG(els:List DElem)(brs:List Int):List DElem:=brs.foldl fixE els
def endG(s:ByteArray):RS:=runG s s.size ⟨0,[],[],0⟩
def elsG(s:ByteArray):List DElem:=fixG (endG s).els (endG s).brs
def Vj3(s:ByteArray):List DInline:=obM (ibK 0 (nstG (elsG s) 0 (elsG s).length))
theorem RdI_0(s:ByteArray):RdI s 0 ⟨0,[],[],0⟩:=⟨Int.le_refl _,by show(0:Int)<=_;omega,Nat.zero_le _,Nat.le_refl _,λf hf=>(by cases hf),List.Pairwise.nil,⟨Int.le_refl _,Int.le_refl _⟩,λe he=>(by cases he),by show((0:Nat):Int)<=_*0;omega⟩
theorem runG_ok{s:ByteArray}(hs:s.size<=820):∀(k n:Nat)(a:RS),RdI s n a->s.size<=n+k->∃ m,RdI s m (runG s k a)/\(s.size:Int)<=(runG s k a).i
 |0,n,a,h,hk=>⟨n,h,by have:=h.i0;show _<=a.i;omega⟩
 |k+1,n,a,h,hk=>by
  rw[runG]
  by_cases hlt:a.i<s.size
  ·rw[decide_eq_true hlt,cond_true];exact runG_ok hs k (n+1) _ (step_ok hs h hlt).1 kv
  ·rw[decide_eq_false hlt,cond_false];exact⟨n,h,by omega⟩
structure FxI (s:ByteArray) (els E:List DElem) (v:Nat):Prop where
 len:E.length=els.length
 eok:∀ e∈E,EOk s e
 wt:wS E<=wS els+9*v
theorem FxI.step{s:ByteArray}{els E:List DElem}{v:Nat}(h:FxI s els E v){k:Int}(hk:0<=k/\k<els.length):FxI s els (fixE E k) (v+1):=by
 have hl:=h.len
 have hsg:(sgnI (el E k.toNat).fimage).size<=2:=by cases(el E k.toNat).fimage <;>decide
 have hws:=wS_set (els:=E) (f:=k.toNat) kv (txtE (sgnI (el E k.toNat).fimage));rw[wE_txt]at hws;refine⟨by unfold fixE;simpa using hl,λe he=>?_,by have:=h.wt;unfold fixE;omega⟩;rcases Zn he with he|he
 ·exact h.eok e he
 ·rw[he];exact EOk.leaf (by show(0:Int)<=1;decide) rfl (by rw[show Va4 (txtE (sgnI (el E k.toNat).fimage)).fpiece.fInline=_ from wE_txt _];omega)
theorem Vpv(els:List DElem)(brs:List Int)(v:Nat)(h:v<brs.length):fixG els (brs.take (v+1))=fixE (fixG els (brs.take v)) (el brs v):=by
 unfold fixG;rw[List.take_succ_eq_append_getElem h,List.foldl_append];simp[el,h]
theorem Vnq{s:ByteArray}{n:Nat}{a:RS}(h:RdI s n a):∀ v,v<=a.brs.length->FxI s a.els (fixG a.els (a.brs.take v)) v
 |0,_=>⟨rfl,h.els,Nat.le_add_right _ _⟩
 |v+1,hv=>by
  rw[Vpv _ _ _ kv];exact(Vnq h v kv).step (h.brs _ (Vcp kv))
theorem FxI.nsg{s:ByteArray}{n v:Nat}{a:RS}{E:List DElem}(hs:s.size<=820)(h:RdI s n a)(hv:v<=a.brs.length)(hE:FxI s a.els E v):NsG E 0 E.length/\(∀k,k<E.length->Va4 (VE E 0 k)<=1073741824)/\wEs E 0 E.length<=1073000000:=by
 have h1:=h.wt
 have h2:(wC s:Int)*a.i<=(wC s:Int)*(3*s.size+10):=Zl h.ib kv
 have h3:(wC s:Int)*(3*s.size+10)<=168000*(3*s.size+10):=Zp (by unfold wC;omega) kv
 have h4:=h.blen;have h5:=h.len;have h6:=h.ns
 have h7:=hE.wt;have h8:=hE.len
 have hw:=wEs_S E 0 E.length kv;rw[List.drop_zero,List.take_length]at hw
 have hO:∀ k,k<E.length->EOk s (el E (0+k)):=λk hk=>hE.eok _ (Vcp kv)
 exact⟨⟨by omega,λk hk=>(hO k hk).cl,λk hk=>(hO k hk).kz,by omega⟩,λk hk=>(hO k hk).wt,by omega⟩
def rdR(s:ByteArray)(els:List DElem)(brs:List Int)(refs m:Int):List (Nat×ABox):=rdB s els brs refs++[glP,glM m]
def rdQ(s:ByteArray):ABox:=rdX s (rnsM s).ka (rnsM s).la (rnsM s).kd (rnsM s).ld
def rdP(s:ByteArray)(m:Int):St:=sx 66 [(0,.ptr 1000 0),(3,.fn 89 [] [.ptr 3 0])] ((3,rdQ s)::rdR s [] [] 0 m) []
def rdL(s:ByteArray)(a:RS)(m:Int):St:=sx 66 [(0,.ptr 1000 0),(3,.fn 89 [] [.ptr 3 0]),(4,.fn 52 [.ptr 1000 0] []),(5,jI a.i)] ((3,rdQ s)::rdR s a.els a.brs a.refs m) []
theorem rd1(s:ByteArray)(m:Int)(hs:s.size<=1073741824):W Tryz.prog (.region 1 (Va7 1 Tryz.f23) false) (λe S1=>e=.normal/\Weak S1 (rdP s m)) (sx 66 [(0,.ptr 1000 0)] (rdR s [] [] 0 m) []):=by
 refine Van ?_;rw[show(Va7 1 Tryz.f23).toList=[regO 1 Tryz.f23 0,regO 1 Tryz.f23 1,regO 1 Tryz.f23 2,regO 1 Tryz.f23 3,regO 1 Tryz.f23 4,regO 1 Tryz.f23 5] by kernel_rfl];refine Vo7 (S':=sx 66 [(0,.ptr 1000 0),(13,jS s)] (rdR s [] [] 0 m) []) 4 ?_ ?_
 ·exact Vla (cs:=[True,True,True,True]) [] 66 [(0,.ptr 1000 0),(13,jS s)] (rdR s [] [] 0 m) [] ⟨trivial,trivial,trivial,trivial,trivial⟩ kx (WK kx)
 refine WO_new (nb:=[(3,rdQ s)]) (res:=.fn 89 [] [.ptr 3 0]) (f:=51) (x:=.func 51) (args:=#[.tmp 13]) (tys:=#[9]) (fs:=[]) (cs:=[]) 14 kx kx rfl (Vcq kx (pisG_to s _ _ _ _ (rnsG_to s hs))) kx kx ?_;refine Var (.fn 89 [] [.ptr 3 0]) 3 kx kx ?_;exact Vbk rfl ⟨rfl,WK kx⟩
theorem nesR_to(els:List DElem)(he:els.length<=536870912)(hN:NsG els 0 els.length)(hw:∀ k,k<els.length->Va4 (VE els 0 k)<=1073741824):Va2 Tryz.prog 57 [.vs 2001 els.length] [(2001,elB els),glP] [] (jL ((nstG els 0 els.length).map Va3)) [(2001,.vck 107 21 (els.map Vb3)),glP] []:=by
 have h:=nesG_to els 0 els.length kv he hN hw
 have h2:Va2 Tryz.prog 57 [.vw 2001 21 0 els.length] [(2001,elB els),glP] [] (jL ((nstG els 0 els.length).map Va3)) [(2001,.vck 107 21 (els.map Vb3)),glP] []:=Vcq kx (Vaa (Vaf (1001,0) (2001,0) rfl) h);refine CallTo_args h2 (λG w vs hv=>?_);obtain⟨u,us,h1,hr,h3⟩:=hv;refine⟨u,us,h1,?_,h3⟩;rcases hr with⟨h0,hu,_⟩|⟨blk,_,ho,hu,hc⟩
 ·exact⟨none,0,by rw[hu,h0],by omega,.inl h0⟩
 ·exact⟨_,_,hu,hc,.inr ⟨blk,ho,by simp⟩⟩
theorem ibK_w:(∀x:DInline,Va4 (ibI x)<=Va4 x):=Vck λx ih=>by
 have h:∀(l:List DInline)(p:Int),(∀y∈l,Va4 (ibI y)<=Va4 y)->wl Va4 (ibK p l)<=wl Va4 l:=by
  intro l
  induction l with
  |nil=>intro p _;rw[ibK];exact Nat.le_refl _
  |cons y l ihl=>
   intro p hy
   have h1:=hy y ku
   have h2:=ihl y.fKind (λq hq=>hy q (by simp[hq]));rw[ibK];cases skB p y with
   |true=>simp only[cond_true,wl];omega
   |false=>simp only[cond_false,wl];omega
 have h1:=h x.fKids 0 ih;rw[Vpp,Vav,Vav];simp only;omega
theorem ibL_w:∀(l:List DInline)(p:Int),wl Va4 (ibK p l)<=wl Va4 l
 |[],p=>by rw[ibK];exact Nat.le_refl _
 |y::l,p=>by
  have h1:=ibK_w y
  have h2:=ibL_w l y.fKind;rw[ibK];cases skB p y with
  |true=>simp only[cond_true,wl];omega
  |false=>simp only[cond_false,wl];omega
def fxS(s:ByteArray)(a:RS)(E:List DElem)(m:Int)(v:Nat):St:=sx 66 [(0,.ptr 1000 0),(36,.vs 2002 a.brs.length),(37,jI ((a.brs.length:Nat):Int)),(38,jI ((v:Nat):Int))] (rdR s E a.brs a.refs m) []
theorem read_to(s:ByteArray)(m:Int)(hs:s.size<=820):Va2 Tryz.prog 23 [.ptr 1000 0] (rdR s [] [] 0 m) [] (jL ((Vj3 s).map Va3)) (rdR s (elsG s) (endG s).brs (endG s).refs m) []:=by
 refine bGs Tryz.func23 ?_;refine gO (tn 1 (kq 1 z)) ?_;refine NXW (rdP s m) (tn 4 z) kx ?_ kx ?_
 ·refine Vai (S':=sx 66 [(0,.ptr 1000 0)] (rdR s [] [] 0 m) []) (WK kx) ?_;exact Val (c':=.region 1 (Va7 1 Tryz.f23) false) kx (rd1 s m kv)
 refine LP (n:=s.size+1) (λN M S=>∃(n k:Nat)(a:RS),RdI s n a/\s.size<=n+k/\runG s k a=endG s/\s.size-n<N/\M=()/\S=rdL s a m) kx ⟨0,s.size,⟨0,[],[],0⟩,RdI_0 s,by omega,rfl,by omega,rfl,rfl⟩ (WK kx) ?_;rintro n0 M S ⟨n,k,a,hR,hnk,hm,hF0,rfl,rfl⟩;obtain⟨n0,rfl⟩:∃ k,n0=k+1:=⟨n0-1,by omega⟩
 by_cases hlt:a.i<s.size
 ·have hd:decide (a.i<((Zb s:Nat):Int))=true:=dT hlt
  have hi0:=hR.i0;obtain⟨t1,t2⟩:=rnsM_ok s
  have hn:=pcs1G_to s (rnsM s).ka (rnsM s).la (rnsM s).kd (rnsM s).ld m a.i kv kv hlt t1 t2
  have hn2:Va2 Tryz.prog 89 [jI a.i,.ptr 3 0] [(3,rdQ s),glM m] [] (.av (.tup [Vbo (pcQ s a.i),vB (pceG s (rnsM s).ka (rnsM s).la (rnsM s).kd (rnsM s).ld a.i).2])) [(3,rdQ s),glM m] []:=Vcq kx (Vaa (Vaf (3,0) (1000,0) rfl) hn);obtain⟨q1,q2⟩:=step_ok hs hR hlt;obtain⟨k,rfl⟩:∃ j,k=j+1:=⟨k-1,by omega⟩
  rw[runG,dT hlt,cond_true]at hm
  have hns:=q1.ns;refine gO (tn 7 (kb hd (tn 2 (kg hn2 trivial (tn 8 (kg q2 trivial (tn 1 z))))))) ?_;exact AG (m:=n0) ⟨n+1,k,pieG s a (pcQ s a.i),q1,by omega,hm,by omega,rfl,rfl⟩ (WK kx) kx (Za _)
 ·have hd:decide (a.i<((Zb s:Nat):Int))=false:=dF hlt
  have ha:a=endG s:=by
   rw[<-hm];cases k with
   |zero=>rfl
   |succ k=>rw[runG,dF hlt,cond_false]
  rw[<-ha]
  have hE:elsG s=fixG a.els a.brs:=by unfold elsG;rw[<-ha]
  refine gO (tn 7 (kb hd z)) ?_;refine OUT (tn 6 z) kx ?_;refine LP (n:=a.brs.length+1) (λN M S=>∃(v:Nat),v<=a.brs.length/\a.brs.length-v<N/\M=()/\S=fxS s a (fixG a.els (a.brs.take v)) m v) kx ⟨0,by omega,by omega,rfl,rfl⟩ (WK kx) ?_;rintro n1 M S ⟨v,hv,hF1,rfl,rfl⟩;obtain⟨n1,rfl⟩:∃ k,n1=k+1:=⟨n1-1,by omega⟩
  have hX:=Vnq hR v hv
  have hlen:=hX.len
  have hl0:=hR.len;have hns0:=hR.ns;have hbl0:=hR.blen
  by_cases h1:v<a.brs.length
  ·have hdv:decide (((v:Nat):Int)<((a.brs.length:Nat):Int))=true:=dT kv
   have hkb:=hR.brs _ (Vcp (l:=a.brs) (i:=v) h1)
   have hi1:0<=((v:Nat):Int)/\((v:Nat):Int)<((a.brs.length:Nat):Int):=⟨by omega,by omega⟩
   have he1:=el_vI a.brs v h1;obtain⟨E,hEE⟩:∃ E,E=fixG a.els (a.brs.take v):=⟨_,rfl⟩
   obtain⟨f,hf⟩:∃ f,f=el a.brs v:=⟨_,rfl⟩
   have hsn:=Vpv a.els a.brs v h1;rw[<-hEE, <-hf]at hsn;rw[<-hEE]at hlen hX ⊢;rw[<-hf]at hkb he1
   have hi2:0<=f/\f<((E.length:Nat):Int):=⟨hkb.1,by omega⟩
   have he2:0<=f/\(E.map Vb3)[f.toNat]? =some (Vb3 (el E f.toNat)):=Vhg E f hi2.1 hi2.2
   have hsg:=sgnI_to (el E f.toNat).fimage
   have htx:=txtE_to (sgnI (el E f.toNat).fimage)
   have hst:=st_elem E f (txtE (sgnI (el E f.toNat).fimage)) hi2
   have hwr:=wrE (((v:Nat):Int)+1) ((v+1:Nat):Int) kv;refine gO (tn 1 (kb hdv (kp hi1 (ke he1 (tn 1 z))))) ?_;refine DR3 (tn 10 (kp hi2 (tn 1 (ke he2 (ko (cO hsg) (kp hsg (tn 1 (ko (cO htx) (kp htx (tn 1 (kp hi2 (kp hst (kq 11 z)))))))))))))  kx kx kx ?_;refine BOX (e:=107) (sz:=21) 2001 kx (set_elem E f.toNat (txtE (sgnI (el E f.toNat).fimage)) kv) ?_;refine gO (kn hwr (tn 1 z)) ?_;refine AG (m:=n1) (S'':=fxS s a (fixE E f) m (v+1)) ⟨v+1,by omega,by omega,rfl,by rw[hsn]⟩ ?_ kx (Za _);unfold fxS rdR rdB;rw[show(fixE E f).length=E.length by unfold fixE;simp];exact WK kx
  ·have hdv:decide (((v:Nat):Int)<((a.brs.length:Nat):Int))=false:=dF kv
   have hvb:v=a.brs.length:=by omega
   subst hvb;rw[List.take_length]at hX hlen ⊢;rw[hE];obtain⟨g1,g2,g3⟩:=hX.nsg hs hR (Nat.le_refl _)
   have hrm:Vj3 s=obM (ibK 0 (nstG (fixG a.els a.brs) 0 (fixG a.els a.brs).length)):=by unfold Vj3;rw[hE]
   rw[hrm];generalize fixG a.els a.brs=E at g1 g2 g3 hlen ⊢
   have hc:=nesR_to E kv g1 g2
   have hkw:=nstG_w g1
   have hiw:=ibL_w (nstG E 0 E.length) 0
   have hi:=inb_to _ (nstG E 0 E.length) (Za _) kv
   have hil:=Vd8 (w:=Va4) Vb5 (ibK 0 (nstG E 0 E.length))
   have ho:=oub_to (ibK 0 (nstG E 0 E.length)) kv;refine gO (tn 1 (kb hdv z)) ?_;refine OUT (tn 4 (kg hc trivial (kc hi (kc ho (tn 1 z))))) kx ?_;exact eNs
def WSP:ByteArray:=⟨#[32,10]⟩
def rd4(s:ByteArray)(els:List DElem)(brs:List Int)(refs m:Int):List (Nat×ABox):=[(4,rdC s els.length brs.length refs),(2001,elB els),(2002,brB brs),glP,glM m]
theorem ghost_weak{S S':St}(h:Weak S S'):Ghost S S':=λG w a hr=>⟨G,Step.refl G w,h G w a hr,λ_ _=>rfl⟩
def rdZ:Value:=.agg #[.string ⟨#[]⟩,.slice none 0 0,.slice none 0 0,.int .i64 0]
def rdA(t:ByteArray):SV:=.ag [.av (vS t),.nil,.nil,.av (vI 0)]
theorem WO_rdr{ops:Array Oper}{o1:Oper}{rest:List Oper}{Q:St->Prop}{S:St}{t m d1 bt:Nat}{s:ByteArray}
  (ho1:o1.op=.build t #[(0,.tmp m)]) (hd1:o1.dst=some d1) (hg1:o1.guard=none) (hi:Vak Tryz.prog t=some (4,bt,some rdZ)) (hpl:Vf9 Tryz.prog t=some [(0,1),(1,1),(2,1),(3,1)]) (hm:S.fr[m]? =some (.av (.val (.string s))))
  (h:WO Tryz.prog ops rest Q (S.put (some d1) (rdA s))):WO Tryz.prog ops (o1::rest) Q S:=by
 intro more Q' G w a hr hq
 have em:a.eval (.tmp m)=.string s:=(hr.fr m _ hm).1
 have x1:(execOp a.eval o1).run Tryz.prog w=.ok (.value (.agg #[.string s,.slice none 0 0,.slice none 0 0,.int .i64 0])) w:=by
  unfold Vf9 at hpl
  split at hpl
  ·rename_i fs hu
   have hmm:=Eng.run_places w fs.toList _ hpl
   have hm2:(fs.mapM (λf=>do pure (f.offset, <-sizeOf f.type)):Sem (Array (Nat×Nat))).run Tryz.prog w=.ok #[(0,1),(1,1),(2,1),(3,1)] w:=by
    rw[Array.mapM_eq_mapM_toList];simp only[Sem.run_map,hmm,Result.andThen_ok]
   simp only[bind_pure_comp]at hm2
   have hf:Instr.fill (λi:Nat=>(#[(0,1),(1,1),(2,1),(3,1)]:Array (Nat×Nat))[i]?) #[.string ⟨#[]⟩,.slice none 0 0,.slice none 0 0,.int .i64 0] [(0,.string s)]=some #[.string s,.slice none 0 0,.slice none 0 0,.int .i64 0]:=rfl;simp[execOp,ho1,Instr.build,Vam hi,Va0 hu,hm2,em,rdZ];rfl
  ·simp at hpl
 simp only[List.cons_append,wpList];rw[if_pos (Vao hg1 a)];refine .inl ?_;unfold Oper.wp;rw[x1,Oper.upon_value,hd1];refine h more Q' G w _ (hr.put (some d1) ?_) hq;refine⟨_,rfl,⟨_,_,rfl,⟨rfl,rfl⟩,_,_,rfl,rfl,_,_,rfl,rfl,_,_,rfl,⟨rfl,rfl⟩,rfl⟩,?_⟩;intro x hx;simp only[Zm,Zh,or_false]at hx;rcases hx with rfl|rfl|rfl|rfl <;>rfl
def glL(m:Int):List (Nat×ABox):=[glP,glM m]
def paP(t:ByteArray)(m:Int):St:=sx 24 [(4,.ptr 4 0)] ((4,.cells 52 [jS t,.nil,.nil,jI 0])::glL m) []
theorem pa3(s t:ByteArray)(m:Int)(hs:s.size<=262144)(ht:trmB s WSP=t):W Tryz.prog (.region 3 (Va7 3 Tryz.f11) false) (λe S1=>e=.normal/\Weak S1 (paP t m)) (sx 24 [(0,jS s)] (glL m) []):=by
 have htr:=Vhu s WSP kv gj (A7.lit gj);rw[ht]at htr;refine Van ?_;rw[show(Va7 3 Tryz.f11).toList=[regO 3 Tryz.f11 0,regO 3 Tryz.f11 1,regO 3 Tryz.f11 2,regO 3 Tryz.f11 3,regO 3 Tryz.f11 4] by kernel_rfl];refine Vo7 (S':=sx 24 [(10,jS t)] (glL m) []) 2 ?_ ?_
 ·exact Vla (cs:=[True,_,True]) [cO htr] 24 [(10,jS t)] (glL m) [] ⟨trivial,htr,trivial,trivial⟩ kx (WK kx)
 refine WO_rdr (t:=52) (m:=10) (d1:=11) (bt:=72) (s:=t) kx kx kx kx kx kx ?_;exact Vla (cs:=[True,True]) [] 24 [(4,.ptr 4 0)] ((4,.cells 52 [jS t,.nil,.nil,jI 0])::glL m) [] ⟨trivial,trivial,trivial⟩ kx ⟨rfl,WK kx⟩
def parT(t:ByteArray):List DInline×Int:=cond (decide (szL (Vj3 t)>32768)) ([],3) (cond (decide (dpL (Vj3 t)>16)) ([],11) (Vj3 t,0))
def parM(s:ByteArray):List DInline×Int:=parT (trmB s WSP)
theorem Vjn:∀ l:List DInline,wl Va4 l.dropLast<=wl Va4 l
 |[]=>Nat.le_refl _
 |[x]=>Nat.zero_le _
 |x::y::l=>by
  have:=Vjn (y::l);rw[List.dropLast_cons_of_ne_nil ku,wl]
  show _<=Va4 x+wl Va4 (y::l);omega
theorem obT_w:∀(n:Nat)(l:List DInline),wl Va4 (obT n l)<=wl Va4 l
 |0,l=>Nat.le_refl _
 |n+1,l=>by
  have h1:=obT_w n l.dropLast
  have h2:=Vjn l;exact Va5 (λq:List DInline=>wl Va4 q<=wl Va4 l) (λ_=>Va5 (λq:List DInline=>wl Va4 q<=wl Va4 l) (λ_=>by omega) (λ_=>Nat.le_refl _)) (λ_=>Nat.le_refl _)
theorem obM_w(l:List DInline):wl Va4 (obM l)<=wl Va4 l:=by
 have h1:=obT_w l.length (obH l)
 have h2:wl Va4 (obH l)<=wl Va4 l:=Va5 (λq:List DInline=>wl Va4 q<=wl Va4 l) (λ_=>by
  cases l with
  |nil=>exact Nat.le_refl _
  |cons x l=>exact Nat.le_add_left _ _) (λ_=>Nat.le_refl _)
 exact Nat.le_trans h1 h2
theorem readM_w(s:ByteArray)(hs:s.size<=820):wl Va4 (Vj3 s)<=1073000000:=by
 obtain⟨m,hR,_⟩:=runG_ok hs s.size 0 ⟨0,[],[],0⟩ (RdI_0 s) kv
 have hX:=Vnq hR _ (Nat.le_refl _);rw[List.take_length]at hX;obtain⟨g1,g2,g3⟩:=hX.nsg hs hR (Nat.le_refl _)
 have h1:=nstG_w g1
 have h2:=ibL_w (nstG (elsG s) 0 (elsG s).length) 0
 have h3:=obM_w (ibK 0 (nstG (elsG s) 0 (elsG s).length));exact Nat.le_trans h3 (Nat.le_trans h2 (Nat.le_trans h1 g3))
def parR(r:List DInline×Int):SV:=.av (.tup [.sl (r.1.map Va3),vI r.2])
theorem Vkb(s:ByteArray)(m:Int)(hs:s.size<=820):Va2 Tryz.prog 11 [jS s] (glL m) [] (parR (parM s)) (glL m) []:=by
 have hd:decide (((Zb s:Nat):Int)>262144)=false:=decide_eq_false kv;obtain⟨t,ht⟩:∃ t,trmB s WSP=t:=⟨_,rfl⟩
 have htz:t.size<=820:=by rw[<-ht];exact Nat.le_trans (Vf8 _ _) hs
 unfold parM;rw[ht]
 have hR4:Va2 Tryz.prog 23 [.ptr 4 0] (rd4 t [] [] 0 m) [] (jL ((Vj3 t).map Va3)) (rd4 t (elsG t) (endG t).brs (endG t).refs m) []:=Vcq kx (Vaa (Vaf (4,0) (1000,0) rfl) (read_to t m htz))
 have hw:=readM_w t htz;unfold parT;generalize Vj3 t=l at hR4 hw ⊢
 have hsz:=size_to l kv
 have hszw:=szL_w l
 have hdpw:=dpL_w l
 have w1:=wrE (((1+szL l:Nat):Int)-1) ((szL l:Nat):Int) kv
 have hdp:=depth_to _ l (Za _) kv
 have hu1:Uni 11 [blk1 l]:=Vmw rfl rfl
 have c1:decide (((szL l:Nat):Int)>32768)=decide (szL l>32768):=decide_eq_decide.2 kv
 have c2:decide (((dpL l:Nat):Int)>16)=decide (dpL l>16):=decide_eq_decide.2 kv;cases h32:decide (szL l>32768)
 case' true=>
  have hd2:=c1.trans h32;rw[cond_true];refine bGs Tryz.func11 ?_
 case' false=>
  have hd2:=c1.trans h32;rw[cond_false];cases h16:decide (dpL l>16)
  case' true=>
   have hd3:=c2.trans h16;rw[cond_true];refine bGs Tryz.func11 ?_
  case' false=>
   have hd3:=c2.trans h16;rw[cond_false];refine bGs Tryz.func11 ?_
 all_goals
  refine gO (tn 5 (kb hd (kq 3 z))) ?_;refine NXW (paP t m) (kq 4 z) kx ?_ kx ?_
  ·refine Vai (S':=sx 24 [(0,jS s)] (glL m) []) (WK kx) ?_;exact Val (c':=.region 3 (Va7 3 Tryz.f11) false) kx (pa3 s t m kv ht)
  refine TELLB 4 1 2001 107 21 kx ?_;refine TELLB 4 2 2002 3 1 kx ?_;refine Voc (S':=sx 24 [(4,.ptr 4 0)] (rd4 t [] [] 0 m) []) (ghost_weak (WK kx)) ?_
 ·refine gO (kg hR4 trivial (tn 3 (kp hu1 (tn 1 (kc hsz (kn w1 (tn 1 (kb hd2 (tn 1 (kc hdp (tn 1 (kb hd3 (tn 3 z))))))))))))) ?_;exact eNs
 ·refine gO (kg hR4 trivial (tn 3 (kp hu1 (tn 1 (kc hsz (kn w1 (tn 1 (kb hd2 (tn 1 (kc hdp (tn 1 (kb hd3 (tn 2 z))))))))))))) ?_;exact eNs
 ·refine gO (kg hR4 trivial (tn 3 (kp hu1 (tn 1 (kc hsz (kn w1 (tn 1 (kb hd2 (tn 2 z))))))))) ?_;exact eNs
end Go.Proofs.YthbpjmogdonlkaaGreatDoor
namespace Go.Proofs.YthbpjmogdonlkaaGreatDoor
open Go Go.Eng
def NR(x:DInline):Prop:=AllI (λy=>refB y.fKind=false) x
def LkP(y:DInline):Prop:=y.fKind=9->∀ z∈y.fKids,NR z
def LK(x:DInline):Prop:=AllI LkP x
def Lk0(y:DInline):Prop:=y.fKind=9->y.fKids=[]
theorem NR.leaf{x:DInline}(h:refB x.fKind=false)(hz:x.fKids=[]):NR x:=Vaj.2 ⟨h,λy hy=>by rw[hz]at hy;cases hy⟩
theorem LK.leaf{x:DInline}(hz:x.fKids=[]):LK x:=Vaj.2 ⟨λ_ z hz'=>by rw[hz]at hz';(cases hz'),λy hy=>by rw[hz]at hy;cases hy⟩
section
variable {els:List DElem} {o m:Nat}
theorem nsX_all{p:DInline->Prop}(h1:∀ t,0<t.size->p (txI t))(h2:∀ k l,(k=6\/k=7\/k=8)->p (prI k l))(h:NsG els o m)(hp:∀ v,v<m->isPh (el els (o+v))=true->p (phI v))(hq:∀ v,v<m->isPh (el els (o+v))=false->p (VE els o v)):
  ∀x∈nsX (pcsG els o m),AllI p x:=by
 have hm:=h.mm
 have hl:=Vjd els o m;refine(mtR_pt (PTi p h1 h2) (pcsG els o m) kv (λv hv _ hk=>?_)).2;rw[pcsG_el els o m v kv]
 show AllI p (pcG v (el els (o+v))).fInline;cases hp':isPh (el els (o+v))with
 |true=>
  have e:(pcG v (el els (o+v))).fInline=phI v:=by unfold pcG;rw[hp'];rfl
  rw[e,Vaj];exact⟨hp v kv hp',λy hy=>by cases hy⟩
 |false=>
  have e:(pcG v (el els (o+v))).fInline=VE els o v:=by unfold pcG;rw[hp'];rfl
  rw[e,Vaj,Vke h kv hp'];exact⟨hq v kv hp',λy hy=>by cases hy⟩
theorem nstG_NR(h:NsG els o m)(hV:∀ k,k<m->NR (VE els o k)):∀ x∈nstG els o m,NR x:=by
 have hm:=h.mm
 have h1:=nsX_all (p:=λy=>refB y.fKind=false) (λt _=>rfl) (λk l hk=>by rcases hk with rfl|rfl|rfl <;>rfl) h (λv _ _=>rfl) (λv hv _=>(Vaj.1 (hV v hv)).1)
 have h2:=mgD_all (p:=λy=>refB y.fKind=false) (λx y _ _ hx _=>hx) (λx hx=>hx) _ h1
 have h3:=(Vpg h).1;intro x hx;obtain⟨q,hq,rfl⟩:=List.mem_map.1 hx
 have key:∀ q:DInline,AllI (PhP m) q->AllI (λy=>refB y.fKind=false) q->NR (rsT (VE els o) q):=Vck λq ih a1 a2=>by
  have b1:=Vaj.1 a1
  have b2:=Vaj.1 a2
  by_cases hk:q.fKind= -1
  ·obtain⟨k,k1,k2⟩:=b1.1.1 hk;rw[rsT_p _ hk,k2,Vbs kv];exact hV k k1
  ·rw[rsT_n _ hk];refine Vaj.2 ⟨b2.1,λy hy=>?_⟩;obtain⟨z,hz,rfl⟩:=List.mem_map.1 hy;exact ih z hz (b1.2 z hz) (b2.2 z hz)
 exact key q (h3 q hq) (h2 q hq)
theorem nstG_LK(h:NsG els o m)(hV:∀ k,k<m->LK (VE els o k)):∀ x∈nstG els o m,LK x:=by
 have hm:=h.mm
 have h1:=nsX_all (p:=Lk0) (λt _ e=>rfl) (λk l hk e=>by have e:k=9:=e;omega) h (λv _ _ e=>rfl) (λv hv hp e=>Vke h hv hp)
 have h2:=mgD_all (p:=Lk0) (λx y hx _ _ _ e=>by have e:x.fKind=9:=e;omega) (λx hx e=>by have e:x.fKind=9:=e;show mgD x.fKids=[];rw[hx e];rfl) _ h1
 have h3:=(Vpg h).1;intro x hx;obtain⟨q,hq,rfl⟩:=List.mem_map.1 hx
 have key:∀ q:DInline,AllI (PhP m) q->AllI Lk0 q->LK (rsT (VE els o) q):=Vck λq ih a1 a2=>by
  have b1:=Vaj.1 a1
  have b2:=Vaj.1 a2
  by_cases hk:q.fKind= -1
  ·obtain⟨k,k1,k2⟩:=b1.1.1 hk;rw[rsT_p _ hk,k2,Vbs kv];exact hV k k1
  ·rw[rsT_n _ hk];refine Vaj.2 ⟨λe z hz=>?_,λy hy=>?_⟩
   ·have e:q.fKind=9:=e
    have hz:z∈q.fKids.map (rsT (VE els o)):=hz;rw[b2.1 e]at hz;cases hz
   ·obtain⟨z,hz,rfl⟩:=List.mem_map.1 hy;exact ih z hz (b1.2 z hz) (b2.2 z hz)
 exact key q (h3 q hq) (h2 q hq)
end
theorem Vie:∀ {l:List DInline} {p:Int} {y:DInline},y∈ibK p l->∃ x∈l,y=ibI x
 |[],_,y,h=>by rw[ibK]at h;cases h
 | x::l,p,y,h=>by
  rw[ibK]at h;cases hs:skB p x with
  |true=>
   rw[hs,cond_true]at h;obtain⟨z,hz,e⟩:=Vie h;exact⟨z,List.mem_cons_of_mem _ hz,e⟩
  |false=>
   rw[hs,cond_false]at h;rcases Zm.1 h with h|h
   ·exact⟨x,by simp,h⟩
   ·obtain⟨z,hz,e⟩:=Vie h;exact⟨z,List.mem_cons_of_mem _ hz,e⟩
theorem ibI_NR:∀ x,NR x->NR (ibI x):=Vck λx ih hx=>by
 have h:=Vaj.1 hx;rw[Vpp];refine Vaj.2 ⟨h.1,λy hy=>?_⟩;obtain⟨z,hz,rfl⟩:=Vie hy;exact ih z hz (h.2 z hz)
theorem ibI_LK:∀ x,LK x->LK (ibI x):=Vck λx ih hx=>by
 have h:=Vaj.1 hx;rw[Vpp];refine Vaj.2 ⟨λe y hy=>?_,λy hy=>?_⟩
 ·obtain⟨z,hz,rfl⟩:=Vie hy;exact ibI_NR z (h.1 e z hz)
 ·obtain⟨z,hz,rfl⟩:=Vie hy;exact ih z hz (h.2 z hz)
theorem mem_obT:∀(n:Nat){l:List DInline}{y:DInline},y∈obT n l->y∈l
 |0,l,y,h=>h
 | n+1,l,y,h=>by
  rw[obT]at h;cases c1:decide (0<l.length)with
  |false=>rw[c1]at h;exact h
  |true=>
   rw[c1,cond_true]at h;cases c2:isBk (el l (l.length-1))with
   |false=>rw[c2]at h;exact h
   |true=>rw[c2,cond_true]at h;exact Zj _ (mem_obT n h)
theorem mem_obM{l:List DInline}{y:DInline}(h:y∈obM l):y∈l:=by
 have h1:=mem_obT _ h;unfold obH at h1;cases hc:cond (decide (0<l.length)) ((el l 0).fKind==2) false with
 |true=>rw[hc]at h1;exact List.mem_of_mem_drop h1
 |false=>rw[hc]at h1;exact h1
theorem ephI_n9(s:ByteArray)(i:Int):(ephI s i).1≠9:=by
 unfold ephI;cases hpxB (ephR s i) eEMP with
 |true=>exact(by decide:(6:Int)≠9)
 | false=>
  cases hpxB (ephR s i) eSTG with
  |true=>exact(by decide:(7:Int)≠9)
  |false=>
   cases hpxB (ephR s i) eSTK with
   |true=>exact(by decide:(8:Int)≠9)
   |false=>exact(by decide:(0:Int)≠9)
theorem bkG_9(s:ByteArray)(refs:Int)(b:DElem)(ks:List DInline)(i:Int)(h:(bkG s refs b ks i).1.fKind=9)(hy:(bkG s refs b ks i).2.2=true):refs<=b.freferences:=by
 unfold bkG bkT bkN at h hy;cases h1:(tlM s i).2.2.2.2 with
 | true=>
  rw[h1,cond_true]at h hy;cases h2:b.fimage with
  |true=>
   rw[h2]at h hy;simp only[Bool.not_true,cond_false]at h hy;cases h3:((prsA s (tlM s i).2.2.2.1).2.2==0)with
   |true=>rw[h3]at h;exact absurd (show(10:Int)=9 from h) gj
   |false=>rw[h3]at h;exact absurd (show(10:Int)=9 from h) gj
  |false=>
   rw[h2]at h hy;simp only[Bool.not_false,cond_true]at h hy;cases h3:decide (refs>b.freferences)with
   |true=>rw[h3]at hy;cases hy
   |false=>have:=of_decide_eq_false h3;omega
 | false=>
  rw[h1,cond_false]at h hy;cases h2:b.fimage with
  |true=>rw[h2]at hy;cases hy
  | false=>
   rw[h2,cond_false]at h hy;cases h3:((ephI s i).1 !=0)with
   |true=>rw[h3]at h;exact absurd (show(ephI s i).1=9 from h) (ephI_n9 s i)
   |false=>
    rw[h3,cond_false]at h hy;cases h4:cond ((prsA s i).2.2 !=0) true (empA (prsA s i).1)with
    |true=>rw[h4]at hy;cases hy
    |false=>rw[h4]at h;exact absurd (show(11:Int)=9 from h) gj
structure RdL (a:RS):Prop where
 lk:∀ e∈a.els,LK e.fpiece.fInline
 le:∀ f∈a.brs,(el a.els f.toNat).freferences<=a.refs
 nr:∀ f∈a.brs,(el a.els f.toNat).freferences=a.refs->∀ v,f.toNat<v->v<a.els.length->NR (el a.els v).fpiece.fInline
theorem el_appL{α:Type}[Inhabited α]{l k:List α}{v:Nat}(h:v<l.length):el (l++k) v=el l v:=by
 unfold el;rw[List.getElem?_append_left h]
theorem el_snc{α:Type}[Inhabited α](l:List α)(x:α):el (l++[x]) l.length=x:=by
 unfold el;rw[List.getElem?_append_right (Nat.le_refl _)];simp
theorem RdL.snoc{a:RS}(hB:∀ f∈a.brs,0<=f/\f<a.els.length)(h:RdL a){i:Int}{e:DElem}{bs:List Int}{r:Int}(he:LK e.fpiece.fInline)(hr:a.refs<=r)(hn:r=a.refs->NR e.fpiece.fInline)(hb:bs=a.brs\/(bs=a.brs++[((a.els.length:Nat):Int)]/\e.freferences<=r)):RdL ⟨i,a.els++[e],bs,r⟩:=by
 have old:∀ f∈a.brs,(el (a.els++[e]) f.toNat).freferences=(el a.els f.toNat).freferences:=λf hf=>by
  have:=hB f hf;rw[el_appL kv]
 have oldn:∀ f∈a.brs,(el (a.els++[e]) f.toNat).freferences=r->∀ v,f.toNat<v->v<(a.els++[e]).length->NR (el (a.els++[e]) v).fpiece.fInline:=λf hf q v h1 h2=>by
  rw[old f hf]at q
  have h3:=h.le f hf
  have h4:r=a.refs:=by omega
  rw[Ze,Zs]at h2
  by_cases hv:v<a.els.length
  ·rw[el_appL hv];exact h.nr f hf kv v h1 hv
  ·obtain rfl:v=a.els.length:=by omega
   rw[el_snc];exact hn h4
 refine⟨λx hx=>?_,λf hf=>?_,λf hf q v h1 h2=>?_⟩
 ·rcases Zd.1 hx with hx|hx
  ·exact h.lk x hx
  ·rw[Zc.1 hx];exact he
 ·show(el (a.els++[e]) f.toNat).freferences<=r;rcases hb with rfl|⟨rfl,hq⟩
  ·rw[old f hf];have:=h.le f hf;omega
  ·rcases Zd.1 hf with hf|hf
   ·rw[old f hf];have:=h.le f hf;omega
   ·have e1:=Zc.1 hf;rw[e1,Int.toNat_natCast,el_snc];exact hq
 ·rcases hb with rfl|⟨rfl,hq⟩
  ·exact oldn f hf q v h1 h2
  ·rcases Zd.1 hf with hf|hf
   ·exact oldn f hf q v h1 h2
   ·have e1:=Zc.1 hf;rw[e1,Int.toNat_natCast]at h1;rw[Ze,Zs]at h2;omega
theorem pceG_k1(s:ByteArray)(ka:List Int)(la:List (List Int))(kd:List Int)(ld:List (List Int))(i:Int):(pceG s ka la kd ld i).1.fKind=1->(pceG s ka la kd ld i).1.fInline.fKind=0:=by
 let Q:DPiece×Bool->Prop:=λr=>r.1.fKind=1->r.1.fInline.fKind=0
 have kP:∀ {b:Bool} {x y:DPiece×Bool},Q x->Q y->Q (cond b x y):=λ{b x y} h1 h2=>by cases b;exact h2;exact h1
 have n0:∀(r:DPiece×Bool),r.1.fKind=0->Q r:=λr h q=>by rw[h]at q;exact absurd q gj
 have hf:∀(x:DInline×Int)(r:DPiece×Bool),Q r->Q (fdR x r):=λx r h=>kP (n0 _ rfl) h
 have hN:Q (nxR s i):=n0 _ rfl
 have hs:Q (spR s i):=kP (n0 _ rfl) (hf _ _ hN)
 have hr:∀ ka va kd vd,Q (runP s ka va kd vd i):=λka va kd vd=>kP (n0 _ rfl) (λ_=>rfl)
 show Q (pceG s ka la kd ld i);refine kP (hf _ _ hN) (kP hs (kP hs (kP (hf _ _ hN) (kP (hf _ _ (hf _ _ hN)) (kP (hf _ _ (n0 _ rfl)) (kP (hf _ _ hN) (kP (hf _ _ hN) (kP (hf _ _ (hf _ _ (λq=>absurd (show(2:Int)=1 from q) gj))) (kP (kP (λq=>absurd (show(2:Int)=1 from q) gj) hN) (kP (λq=>absurd (show(3:Int)=1 from q) gj) (kP (hr _ _ _ _) (kP (hr _ _ _ _) (kP (hr _ _ _ _) hN)))))))))))))
theorem el_setN{α:Type}[Inhabited α]{l:List α}{f v:Nat}{x:α}(h:v≠f):el (l.set f x) v=el l v:=by
 unfold el;rw[List.getElem?_set_ne (λe=>h e.symm)]
theorem el_takeN{α:Type}[Inhabited α]{l:List α}{f v:Nat}(h:v<f):el (l.take f) v=el l v:=by
 unfold el;rw[List.getElem?_take,if_pos h]
theorem txt_LK(t:ByteArray):LK (txtE t).fpiece.fInline/\NR (txtE t).fpiece.fInline:=⟨LK.leaf rfl,NR.leaf rfl rfl⟩
section
variable {s:ByteArray} {n:Nat} {a:RS}
theorem cls_lk(hs:s.size<=820)(hI:RdI s n a)(hlt:a.i<s.size)(h:RdL a):RdL (clsG s a (a.i+1)):=by
 have hi0:=hI.i0;have hlen:=hI.len;cases hg:a.brs.getLast? with
 |none=>
  have hb:a.brs=[]:=List.getLast?_eq_none_iff.1 hg
  have hc:clsG s a (a.i+1)=⟨a.i+1,a.els++[inE (txI CLO)],[],a.refs⟩:=by unfold clsG;rw[hg]
  rw[hc];exact h.snoc hI.brs (LK.leaf rfl) (Int.le_refl _) (λ_=>NR.leaf rfl rfl) (.inl hb.symm)
 | some f=>
  have hbs:=Vpl hg
  have hfm:f∈a.brs:=by rw[hbs];simp
  have hf:=hI.brs f hfm
  have hbm:∀ x∈a.brs.dropLast,0<=x/\x<f:=λx hx=>by
   have h1:=hI.asc;rw[hbs,List.pairwise_append]at h1;exact⟨(hI.brs x (Zj _ hx)).1,h1.2.2 x hx f ku⟩
  obtain⟨N1,N2,N3⟩:=hI.nsg hs (f.toNat+1) (a.els.length-(f.toNat+1)) kv
  have hO:=bkG_o s a.refs (el a.els f.toNat) (nstG a.els (f.toNat+1) (a.els.length-(f.toNat+1))) (a.i+1) kv kv
  have h9:=bkG_9 s a.refs (el a.els f.toNat) (nstG a.els (f.toNat+1) (a.els.length-(f.toNat+1))) (a.i+1)
  have hkl:=nstG_LK N1 (λk hk=>h.lk _ (Vcp kv))
  have hkn:(∀v,f.toNat<v->v<a.els.length->NR (el a.els v).fpiece.fInline)->∀ x∈nstG a.els (f.toNat+1) (a.els.length-(f.toNat+1)),NR x:=λhv=>nstG_NR N1 (λk hk=>hv _ kv kv)
  have hc:clsG s a (a.i+1)=cond (bkO s a f.toNat (a.i+1)).2.2 (yesE a f.toNat a.brs.dropLast (bkO s a f.toNat (a.i+1))) (noE a f.toNat a.brs.dropLast (a.i+1)):=by unfold clsG;rw[hg]
  rw[hc];obtain⟨r,hr⟩:∃ r,r=bkO s a f.toNat (a.i+1):=⟨_,rfl⟩
  rw[<-hr];unfold bkO at hr;rw[<-hr]at hO h9;generalize nstG a.els (f.toNat+1) (a.els.length-(f.toNat+1))=ks at hkl hkn hO;obtain⟨x,j,ok⟩:=r;cases ok with
  | true=>
   rw[cond_true]
   have hx2:x.fKids=ks:=hO.kids rfl
   have h9:x.fKind=9->a.refs<=(el a.els f.toNat).freferences:=λe=>h9 e rfl
   have hle:=h.le f hfm
   have htk:(a.els.take f.toNat).length=f.toNat:=by rw[List.length_take];omega
   have hold:∀ v,v<f.toNat->el (a.els.take f.toNat++[inE x]) v=el a.els v:=λv hv=>by rw[el_appL kv,el_takeN hv]
   have hrl:a.refs<=rfc x a.refs:=by
    unfold rfc;cases refB x.fKind with
    |true=>simp only[cond_true];omega
    |false=>simp only[cond_false];omega
   refine⟨λe he=>?_,λg hg=>?_,λg hg q v h1 h2=>?_⟩
   ·rcases Zd.1 he with he|he
    ·exact h.lk e (List.mem_of_mem_take he)
    ·rw[Zc.1 he]
     show LK x;refine Vaj.2 ⟨λe z hz=>?_,λy hy=>by rw[hx2]at hy;exact hkl y hy⟩;rw[hx2]at hz
     have:=h9 e;exact hkn (h.nr f hfm kv) z hz
   ·have hgb:=hbm g hg
    show(el (a.els.take f.toNat++[inE x]) g.toNat).freferences<=rfc x a.refs;rw[hold _ kv]
    have:=h.le g (Zj _ hg);omega
   ·have hgb:=hbm g hg
    have q:(el (a.els.take f.toNat++[inE x]) g.toNat).freferences=rfc x a.refs:=q;rw[hold _ kv]at q
    have h3:=h.le g (Zj _ hg)
    have h4:=h.nr g (Zj _ hg) kv
    have h2:v<(a.els.take f.toNat++[inE x]).length:=h2;rw[Ze,htk,Zs]at h2
    show NR (el (a.els.take f.toNat++[inE x]) v).fpiece.fInline
    by_cases hv:v<f.toNat
    ·rw[hold v hv];exact h4 v h1 kv
    ·have ev:v=(a.els.take f.toNat).length:=by omega
     rw[ev,el_snc]
     have hrf:refB x.fKind=false:=by
      cases hb:refB x.fKind with
      |false=>rfl
      |true=>
       exfalso
       have:rfc x a.refs=a.refs+1:=by unfold rfc;rw[hb];rfl
       omega
     exact Vaj.2 ⟨hrf,λy hy=>by
      have hy:y∈x.fKids:=hy;rw[hx2]at hy
      exact hkn (λv q1 q2=>h4 v kv q2) y hy⟩
  | false=>
   rw[cond_false]
   have hset:RdL ⟨a.i,a.els.set f.toNat (txtE (sgnI (el a.els f.toNat).fimage)),a.brs.dropLast,a.refs⟩:=by
    refine⟨λe he=>?_,λg hg=>?_,λg hg q v h1 h2=>?_⟩
    ·rcases Zn he with he|he
     ·exact h.lk e he
     ·rw[he];exact(txt_LK _).1
    ·have hgb:=hbm g hg
     show(el (a.els.set f.toNat _) g.toNat).freferences<=a.refs;rw[el_setN kv];exact h.le g (Zj _ hg)
    ·have hgb:=hbm g hg
     have q:(el (a.els.set f.toNat (txtE (sgnI (el a.els f.toNat).fimage))) g.toNat).freferences=a.refs:=q;rw[el_setN kv]at q
     have h2:v<(a.els.set f.toNat (txtE (sgnI (el a.els f.toNat).fimage))).length:=h2;rw[List.length_set]at h2
     show NR (el (a.els.set f.toNat (txtE (sgnI (el a.els f.toNat).fimage))) v).fpiece.fInline
     by_cases hv:v=f.toNat
     ·subst hv
      have e:el (a.els.set f.toNat (txtE (sgnI (el a.els f.toNat).fimage))) f.toNat=txtE (sgnI (el a.els f.toNat).fimage):=by
       conv=>lhs;unfold el
       rw[List.getElem?_set_self kv];rfl
      rw[e];exact(txt_LK _).2
     ·rw[el_setN hv];exact h.nr g (Zj _ hg) q v h1 h2
   exact hset.snoc (λg hg=>by have:=hbm g hg;show 0<=g/\g<(((a.els.set f.toNat (txtE (sgnI (el a.els f.toNat).fimage))).length:Nat):Int);rw[List.length_set];omega) (LK.leaf rfl) (Int.le_refl _) (λ_=>NR.leaf rfl rfl) (.inl rfl)
theorem step_lk(hs:s.size<=820)(hI:RdI s n a)(hlt:a.i<s.size)(h:RdL a):RdL (pieG s a (pcQ s a.i)):=by
 obtain⟨hp,hw,h3⟩:=pcQ_ok hI hlt
 have k1':(pcQ s a.i).fKind=1->(pcQ s a.i).fInline.fKind=0:=pceG_k1 s _ _ _ _ _;obtain⟨p,hpq⟩:∃ p,p=pcQ s a.i:=⟨_,rfl⟩
 rw[<-hpq]at hp hw h3 k1' ⊢;unfold pieG;cases k1:(p.fKind==1)with
 |true=>
  rw[cond_true];exact h.snoc hI.brs (LK.leaf hw.kids) (Int.le_refl _) (λ_=>NR.leaf (by show refB p.fInline.fKind=false;rw[k1' (eq_of_beq k1)];rfl) hw.kids) (.inl rfl)
 | false=>
  rw[cond_false];cases k2:(p.fKind==2)with
  |true=>
   rw[cond_true];exact h.snoc hI.brs (LK.leaf rfl) (Int.le_refl _) (λ_=>NR.leaf rfl rfl) (.inr ⟨rfl,Int.le_refl _⟩)
  | false=>
   rw[cond_false];cases k3:(p.fKind==3)with
   |true=>
    rw[cond_true,h3 (eq_of_beq k3)];exact cls_lk hs hI hlt h
   | false=>
    rw[cond_false];refine h.snoc hI.brs (LK.leaf hw.kids) ?_ (λq=>?_) (.inl rfl)
    ·unfold rfc;cases refB p.fInline.fKind with
     |true=>simp only[cond_true];omega
     |false=>simp only[cond_false];omega
    ·cases hb:refB p.fInline.fKind with
     |false=>exact NR.leaf hb hw.kids
     |true=>
      exfalso
      have:rfc p.fInline a.refs=a.refs+1:=by unfold rfc;rw[hb];rfl
      omega
end
theorem runG_lk{s:ByteArray}(hs:s.size<=820):∀(k n:Nat)(a:RS),RdI s n a->RdL a->RdL (runG s k a)
 |0,n,a,_,h=>h
 |k+1,n,a,hI,h=>by
  rw[runG]
  by_cases hlt:a.i<s.size
  ·rw[decide_eq_true hlt,cond_true];exact runG_lk hs k (n+1) _ (step_ok hs hI hlt).1 (step_lk hs hI hlt h)
  ·rw[decide_eq_false hlt,cond_false];exact h
theorem fixG_lk:∀(brs:List Int)(els:List DElem),(∀e∈els,LK e.fpiece.fInline)->∀ e∈fixG els brs,LK e.fpiece.fInline
 |[],els,h=>h
 | k::brs,els,h=>fixG_lk brs (fixE els k) (fun e he=>by
   rcases Zn he with he|he
   ·exact h e he
   ·rw[he];exact(txt_LK _).1)
theorem readM_lk(s:ByteArray)(hs:s.size<=820):∀ x∈Vj3 s,LK x:=by
 obtain⟨m,hR,_⟩:=runG_ok hs s.size 0 ⟨0,[],[],0⟩ (RdI_0 s) kv
 have hL:RdL (endG s):=runG_lk hs s.size 0 ⟨0,[],[],0⟩ (RdI_0 s) ⟨λe he=>(by cases he),λf hf=>(by cases hf),λf hf=>(by cases hf)⟩
 have hX:=Vnq hR _ (Nat.le_refl _);rw[List.take_length]at hX;obtain⟨g1,g2,g3⟩:=hX.nsg hs hR (Nat.le_refl _)
 have hE:=fixG_lk (endG s).brs (endG s).els hL.lk
 have hN:∀ x∈nstG (elsG s) 0 (elsG s).length,LK x:=nstG_LK (g1:NsG (elsG s) 0 (elsG s).length) (λk hk=>hE _ (Vcp (show 0+k<(elsG s).length by rw[Nat.zero_add];exact hk)));intro x hx;obtain⟨y,hy,rfl⟩:=Vie (mem_obM hx);exact ibI_LK y (hN y hy)
theorem cnd_lk(b c:Bool)(l:List DInline)(h:∀ x∈l,LK x):∀ x∈(cond b (([],3):List DInline×Int) (cond c ([],11) (l,0))).1,LK x:=by
 cases b
 ·cases c
  ·exact h
  ·intro x hx;cases hx
 ·intro x hx;cases hx
theorem parT_lk(t:ByteArray)(hs:t.size<=820):∀ x∈(parT t).1,LK x:=by
 have h:=readM_lk t hs;unfold parT;generalize Vj3 t=l at h ⊢;exact cnd_lk _ _ l h
theorem parM_lk(s:ByteArray)(hs:s.size<=820):∀ x∈(parM s).1,LK x:=parT_lk _ (Nat.le_trans (Vf8 _ _) hs)
end Go.Proofs.YthbpjmogdonlkaaGreatDoor
namespace Go.Proofs.YthbpjmogdonlkaaGreatDoor
open Go Go.Eng
def lnkBS_L0(rec:(List DInline)->Bool->Bool)(l:List DInline)(b:Bool):Nat->Nat->Bool
 |0,_=>default
 |n0+1,v5=>cond (decide (((v5:Nat):Int)<((lenM Va3 l:Nat):Int))) (cond (cond (cond b (cond (cond (cond (cond (((el l v5).fKind:Int)==9) true (((el l v5).fKind:Int)==16)) true (((el l v5).fKind:Int)==12)) true (((el l v5).fKind:Int)==14)) true (((el l v5).fKind:Int)==13)) false) true (rec ((el l v5).fKids) (cond b true (((el l v5).fKind:Int)==9)))) true (lnkBS_L0 rec l b n0 (v5+1))) false
def lnkBS(rec:(List DInline)->Bool->Bool)(l:List DInline)(b:Bool):Bool:=lnkBS_L0 rec l b ((List.length l-0)+1) 0
theorem lnkB_st(rec:(List DInline)->Bool->Bool)(l:List DInline)(b:Bool)(hl:wl Va4 l<=1073741824)(hrec:∀(l':List DInline)(b':Bool),wl Va4 l'<wl Va4 l->wl Va4 l'<=1073741824->Va2 Tryz.prog 14 [(jL ((l').map Va3)),(jB b')] [] [] (jB (rec l' b')) [] []):Va2 Tryz.prog 14 [(jL (l.map Va3)),(jB b)] [] [] (jB (lnkBS rec l b)) [] []:=by
 have hw_0:=Vd8 (w:=Va4) Vb5 l;refine BEG (λr:Bool=>(jB r)) (lnkBS rec l b) Tryz.func14 kx ?_;refine UF (lnkBS.eq_1 ..) ?_;refine GO (tn 2 z) kx ?_;refine LP (λN M S=>∃ v5:Nat,(List.length l-v5<N)/\M=lnkBS_L0 rec l b N v5/\S=(sx 52 [(0,(jL (l.map Va3))),(1,(jB b)),(5,(jI ((v5:Nat):Int)))] [] [])) kx ⟨_,by omega,rfl,rfl⟩ (WK kx) ?_;rintro n0 M S ⟨v5,hF0,rfl,rfl⟩;obtain⟨n0,rfl⟩:∃ k,n0=k+1:=⟨n0-1,by omega⟩
 refine UF (lnkBS_L0.eq_2 ..) ?_;refine GO (tn 4 z) kx ?_;refine CSd (λh1p h1=>?_) (λh1p h1=>?_)
 ·have:=Va6 Va3 l
  have hce:=wl_el (w:=Va4) (l:=l) (i:=v5) kv
  have hcw:=Vav (el l v5);simp only[wStr,w1]at hcw;refine GO (kb h1 (tn 2 (ke (Vb1 l v5 (by first|omega|(simp only[Va6,true_and];omega))) (tn 5 (kj b (tn 3 (kj (((el l v5).fKind:Int)==9) z (tn 2 z) (tn 1 (kj (cond (((el l v5).fKind:Int)==9) true (((el l v5).fKind:Int)==16)) z (tn 2 z) (tn 1 (kj (cond (cond (((el l v5).fKind:Int)==9) true (((el l v5).fKind:Int)==16)) true (((el l v5).fKind:Int)==12)) z (tn 2 z) (tn 1 (kj (cond (cond (cond (((el l v5).fKind:Int)==9) true (((el l v5).fKind:Int)==16)) true (((el l v5).fKind:Int)==12)) true (((el l v5).fKind:Int)==14)) z (tn 2 z) z)))))))) z (tn 1 (kj (cond b (cond (cond (cond (cond (((el l v5).fKind:Int)==9) true (((el l v5).fKind:Int)==16)) true (((el l v5).fKind:Int)==12)) true (((el l v5).fKind:Int)==14)) true (((el l v5).fKind:Int)==13)) false) z (tn 2 (he (λh=>by have j0:=h.2;exact(Vb1 l v5 (by first|omega|(simp only[Va6,true_and];omega)))) (tn 4 (kj b z (tn 2 z) (hc (λh=>by have j0:=h.2;exact(hrec ((el l v5).fKids) (cond b true (((el l v5).fKind:Int)==9)) ky ky)) z))))) z))))))) kx ?_;refine CS (λh2=>?_) (λh2=>?_)
  ·refine GO (kb h2 (tn 1 z)) kx ?_;refine OUT z kx ?_;exact EN kx
  ·obtain⟨h2a,h2o⟩:=Vae h2;refine GO (kb h2 (tn 1 (kn (wrE (((v5:Nat):Int)+1) ((v5+1:Nat):Int) kv) (tn 1 z)))) kx ?_;exact AG ⟨_,by omega,rfl,rfl⟩ (WK kx) kx (Za _)
 ·have:=Va6 Va3 l;refine GO (kb h1 z) kx ?_;refine OUT (tn 1 z) kx ?_;exact EN kx
def lnkBN:Nat->(List DInline)->Bool->Bool
 |0,_,_=>default
 |n+1,l,b=>lnkBS (lnkBN n) l b
theorem lnkBN_to:∀(n:Nat)(l:List DInline)(b:Bool),wl Va4 l<n->wl Va4 l<=1073741824->Va2 Tryz.prog 14 [(jL (l.map Va3)),(jB b)] [] [] (jB (lnkBN n l b)) [] []
 |0,l,b,h0,_=>absurd h0 (Nat.not_lt_zero _)
 |n+1,l,b,h0,hl=>by
  exact lnkB_st (lnkBN n) l b hl (λl' b' q1 hl'=>lnkBN_to n l' b' kv hl')
def lnkB(l:List DInline)(b:Bool):Bool:=lnkBN (wl Va4 l+1) l b
theorem lnkB_to(l:List DInline)(b:Bool)(hl:wl Va4 l<=1073741824):Va2 Tryz.prog 14 [(jL (l.map Va3)),(jB b)] [] [] (jB (lnkB l b)) [] []:=lnkBN_to _ l b (Za _) hl
def kndB_L0(l:List DInline)(k:List Int):Nat->Nat->Bool
 |0,_=>default
 |n0+1,v5=>cond (decide (((v5:Nat):Int)<((lenM Va3 l:Nat):Int))) (cond (((el l v5).fKind:Int) !=el k v5) false (kndB_L0 l k n0 (v5+1))) true
def kndB(l:List DInline)(k:List Int):Bool:=cond (((lenM Va3 l:Nat):Int) !=((lenM vI k:Nat):Int)) false (kndB_L0 l k ((List.length l-0)+1) 0)
theorem kndB_to(l:List DInline)(k:List Int)(hl:l.length<=1073741824)(hk:k.length<=1073741824):Va2 Tryz.prog 16 [(jL (l.map Va3)),(jL (k.map vI))] [] [] (jB (kndB l k)) [] []:=by
 refine BEG (λr:Bool=>(jB r)) (kndB l k) Tryz.func16 kx ?_;refine UF (kndB.eq_1 ..) ?_;refine GO (tn 6 z) kx ?_;refine CSn (λh1p h1=>?_) (λh1p h1=>?_)
 ·have:=Va6 Va3 l
  have:=Va6 vI k;refine GO (kb h1 (tn 1 z)) kx ?_;exact EN kx
 ·have:=Va6 Va3 l
  have:=Va6 vI k;refine GO (kb h1 (tn 1 z)) kx ?_;refine LP (λN M S=>∃ v5:Nat,(List.length l-v5<N)/\M=kndB_L0 l k N v5/\S=(sx 27 [(0,(jL (l.map Va3))),(1,(jL (k.map vI))),(5,(jI ((v5:Nat):Int)))] [] [])) kx ⟨_,by omega,rfl,rfl⟩ (WK kx) ?_;rintro n0 M S ⟨v5,hF0,rfl,rfl⟩;obtain⟨n0,rfl⟩:∃ k,n0=k+1:=⟨n0-1,by omega⟩
  refine UF (kndB_L0.eq_2 ..) ?_;refine GO (tn 4 z) kx ?_;refine CSd (λh2p h2=>?_) (λh2p h2=>?_)
  ·have:=Va6 Va3 l;refine GO (kb h2 z) kx ?_
   have d3:=(Vb1 l v5 (by first|omega|(simp only[Va6,true_and];omega)))
   have d4:=(el_vI k v5 (by first|omega|(simp only[Va6,true_and];omega)))
   refine DR3 (tn 2 (ko (eO d3) (kp d3 (tn 4 (ko (eO d4) (kp d4 (tn 2 z))))))) kx kx kx ?_;refine CSn (λh5p h5=>?_) (λh5p h5=>?_)
   ·refine GO (kb h5 (tn 1 z)) kx ?_;refine OUT z kx ?_;exact EN kx
   ·refine GO (kb h5 (tn 1 (kn (wrE (((v5:Nat):Int)+1) ((v5+1:Nat):Int) kv) (tn 1 z)))) kx ?_;exact AG ⟨_,by omega,rfl,rfl⟩ (WK kx) kx (Za _)
  ·have:=Va6 Va3 l;refine GO (kb h2 z) kx ?_;refine OUT (tn 1 z) kx ?_;exact EN kx
def ax1:ByteArray:=⟨#[97,32,91,42,98,42,93,40,120,41,32,99]⟩
def ax2:ByteArray:=⟨#[97,32,91,98,93,40,99,41,93,40,100,41]⟩
def ax3:ByteArray:=⟨#[91,42,97,93,40,120,41,42]⟩
def ax4:ByteArray:=⟨#[33,91,97,93,40,120,32,34,84,34,41,123,46,98,125]⟩
def ax5:ByteArray:=⟨#[91,93,123,61,115,116,114,111,110,103,125]⟩
def ax6:ByteArray:=⟨#[91,97,93,123,61,115,116,114,111,110,103,125]⟩
def aL(s:ByteArray):List DInline:=(parM s).1
theorem knd_l{l:List DInline}{k:List Int}{b:Bool}(h:kndB l k=b)(h1:l.length<=9)(h2:k.length<=9):Va2 Tryz.prog 16 [jL (l.map Va3),jL (k.map vI)] [] [] (jB b) [] []:=h ▸ kndB_to l k kv kv
theorem awk_to(m:Int):Va2 Tryz.prog 10 [] (glL m) [] (jB true) (glL m) []:=by
 have p1:=Vkb ax1 m gj
 have p2:=Vkb ax2 m gj
 have p3:=Vkb ax3 m gj
 have p4:=Vkb ax4 m gj
 have p5:=Vkb ax5 m gj
 have p6:=Vkb ax6 m gj;rw[show parM ax1=(aL ax1,0) by kernel_rfl]at p1;rw[show parM ax2=(aL ax2,0) by kernel_rfl]at p2;rw[show parM ax3=(aL ax3,0) by kernel_rfl]at p3;rw[show parM ax4=(aL ax4,0) by kernel_rfl]at p4;rw[show parM ax5=(aL ax5,0) by kernel_rfl]at p5;rw[show parM ax6=(aL ax6,0) by kernel_rfl]at p6;refine bGs Tryz.func10 ?_
 have i1:=Vb1 (aL ax1) 1 (of_decide_eq_true kx)
 have i2:=Vb1 (aL ax2) 2 (of_decide_eq_true kx)
 have i4:=Vb1 (aL ax4) 0 (of_decide_eq_true kx)
 have k1:=knd_l (l:=aL ax1) (k:=[1,9,1]) (b:=true) kx (of_decide_eq_true kx) gj
 have k1':=knd_l (l:=(el (aL ax1) 1).fKids) (k:=[6]) (b:=true) kx (of_decide_eq_true kx) gj
 have k2:=knd_l (l:=aL ax2) (k:=[1,9,1]) (b:=true) kx (of_decide_eq_true kx) gj
 have k3:=knd_l (l:=aL ax3) (k:=[9,1]) (b:=true) kx (of_decide_eq_true kx) gj
 have k4:=knd_l (l:=aL ax4) (k:=[10]) (b:=true) kx (of_decide_eq_true kx) gj
 have k5:=knd_l (l:=aL ax5) (k:=[1]) (b:=true) kx (of_decide_eq_true kx) gj
 have k6:=knd_l (l:=aL ax6) (k:=[7]) (b:=true) kx (of_decide_eq_true kx) gj
 have u1:Uni 1 [vI 1,vI 9,vI 1]:=Vlv [1,9,1]
 have u2:Uni 1 [vI 6]:=Vlv [6]
 have u3:Uni 1 [vI 9,vI 1]:=Vlv [9,1]
 have u4:Uni 1 [vI 10]:=Vlv [10]
 have u5:Uni 1 [vI 1]:=Vlv [1]
 have u6:Uni 1 [vI 7]:=Vlv [7];refine gO (tn 1 (kg p1 trivial (tn 5 (kg p2 trivial (tn 8 (kb (b:=false) (d:=false) rfl (tn 1 (kb (b:=false) (d:=false) rfl (tn 1 (kb (b:=false) (d:=false) rfl (tn 1 (kb (b:=false) (d:=false) rfl (tn 1 (kb (b:=false) (d:=false) rfl (kp u1 (kb (b:=false) (d:=false) rfl (kc k1 (kb (b:=false) (d:=false) rfl (tn 1 (kb (b:=false) (d:=false) rfl (tn 1 (kb (b:=false) (d:=false) rfl (tn 1 (kb (b:=false) (d:=false) rfl (ke i1 (kb (b:=false) (d:=false) rfl (tn 1 (kb (b:=false) (d:=false) rfl (tn 1 (kb (b:=false) (d:=false) rfl (tn 1 (kb (b:=false) (d:=false) rfl (tn 1 (kb (b:=false) (d:=false) rfl (tn 1 (kb (b:=false) (d:=false) rfl (ke i1 (kb (b:=false) (d:=false) rfl (tn 1 (kb (b:=false) (d:=false) rfl (tn 1 (kb (b:=false) (d:=false) rfl (kp u2 (kb (b:=false) (d:=false) rfl (kc k1' (kb (b:=false) (d:=false) rfl (tn 1 (kb (b:=false) (d:=false) rfl (tn 1 (kb (b:=false) (d:=false) rfl (tn 1 (kb (b:=false) (d:=false) rfl (kp u1 (kb (b:=false) (d:=false) rfl (kc k2 (kb (b:=false) (d:=false) rfl (tn 1 (kb (b:=false) (d:=false) rfl (tn 1 (kb (b:=false) (d:=false) rfl (tn 1 (kb (b:=false) (d:=false) rfl (ke i2 (kb (b:=false) (d:=false) rfl (tn 1 (kb (b:=false) (d:=false) rfl (tn 1 (kb (b:=false) (d:=false) rfl (tn 1 (kb (b:=false) (d:=false) rfl (kb (b:=false) (d:=false) rfl (kq 5 z)))))))))))))))))))))))))))))))))))))))))))))))))))))))))))))))))))))))) ?_;refine gO (kg p3 trivial (tn 5 (kg p4 trivial (tn 5 (kg p5 trivial (tn 5 (kg p6 trivial (tn 6 (kp u3 (kc k3 (tn 1 (kb (b:=true) (d:=true) rfl (tn 1 (kb (b:=true) (d:=true) rfl (kp u4 (kb (b:=true) (d:=true) rfl (kc k4 (kb (b:=true) (d:=true) rfl (tn 1 (kb (b:=true) (d:=true) rfl (tn 1 (kb (b:=true) (d:=true) rfl (ke i4 (kb (b:=true) (d:=true) rfl (tn 1 (kb (b:=true) (d:=true) rfl (tn 1 (kb (b:=true) (d:=true) rfl (tn 1 (kb (b:=true) (d:=true) rfl (tn 1 (kb (b:=true) (d:=true) rfl (tn 1 (kb (b:=true) (d:=true) rfl (ke i4 (kb (b:=true) (d:=true) rfl (tn 1 (kb (b:=true) (d:=true) rfl (tn 1 (kb (b:=true) (d:=true) rfl (tn 1 (kb (b:=true) (d:=true) rfl (tn 1 (kb (b:=true) (d:=true) rfl (tn 1 (kb (b:=true) (d:=true) rfl (tn 1 (kb (b:=true) (d:=true) rfl (tn 1 (kb (b:=true) (d:=true) rfl (kp u5 (kb (b:=true) (d:=true) rfl (kc k5 (kb (b:=true) (d:=true) rfl (tn 1 (kb (b:=true) (d:=true) rfl (tn 1 (kb (b:=true) (d:=true) rfl (kp u6 (kb (b:=true) (d:=true) rfl (kc k6 (kb (b:=true) (d:=true) rfl (tn 1 z))))))))))))))))))))))))))))))))))))))))))))))))))))))))))))))) ?_;exact eNs
end Go.Proofs.YthbpjmogdonlkaaGreatDoor
set_option maxRecDepth 100000
namespace Go.Proofs.YthbpjmogdonlkaaGreatDoor
open Go Go.Eng
theorem cnd_w(b c:Bool)(l:List DInline)(n:Nat)(h:wl Va4 l<=n):wl Va4 (cond b (([],3):List DInline×Int) (cond c ([],11) (l,0))).1<=n:=by
 cases b
 ·cases c
  ·exact h
  ·exact Nat.zero_le _
 ·exact Nat.zero_le _
theorem parT_w(t:ByteArray)(hs:t.size<=820):wl Va4 (parT t).1<=1073000000:=by
 have h:=readM_w t hs;unfold parT;generalize Vj3 t=l at h ⊢;exact cnd_w _ _ l _ h
theorem parM_w(s:ByteArray)(hs:s.size<=820):wl Va4 (parM s).1<=1073000000:=parT_w _ (Nat.le_trans (Vf8 _ _) hs)
theorem refB_k(k:Int):(cond (cond (cond (cond ((k:Int)==9) true ((k:Int)==16)) true ((k:Int)==12)) true ((k:Int)==14)) true ((k:Int)==13))=refB k:=by
 unfold refB;cases((k:Int)==9) <;>cases((k:Int)==16) <;>cases((k:Int)==12) <;>cases((k:Int)==14) <;>rfl
theorem lnkBS_f(rec:List DInline->Bool->Bool)(l:List DInline)(b:Bool)(hb:b=true->∀ x∈l,NR x)(hr:∀ x∈l,rec x.fKids (cond b true (x.fKind==9))=false):lnkBS rec l b=false:=by
 unfold lnkBS
 have key:∀ n v,l.length-v<n->lnkBS_L0 rec l b n v=false:=by
  intro n
  induction n with
  |zero=>intro v h;omega
  | succ n ih=>
   intro v h
   have hl:=Va6 Va3 l;rw[lnkBS_L0]
   by_cases hv:v<l.length
   ·have hx:=Vcp hv;rw[dT kv,cond_true,refB_k,hr _ hx,ih _ kv];cases b with
    |false=>rfl
    |true=>rw[(Vaj.1 (hb rfl _ hx)).1];rfl
   ·rw[dF kv];rfl
 exact key _ _ kv
theorem lnkBN_f:∀(n:Nat)(l:List DInline)(b:Bool),wl Va4 l<n->(b=true->∀ x∈l,NR x)->(∀x∈l,LK x)->lnkBN n l b=false
 |0,l,b,h,_,_=>by omega
 |n+1,l,b,h,hb,hk=>by
  rw[lnkBN];refine lnkBS_f _ l b hb (λx hx=>?_)
  have h1:=Vip (w:=Va4) hx
  have h2:=Vav x;refine lnkBN_f n x.fKids _ kv (λe=>?_) (λy hy=>(Vaj.1 (hk x hx)).2 y hy);cases b with
  |true=>exact(Vaj.1 (hb rfl x hx)).2
  |false=>exact(Vaj.1 (hk x hx)).1 (eq_of_beq e)
theorem lnkB_f(l:List DInline)(hk:∀ x∈l,LK x):lnkB l false=false:=lnkBN_f _ l false (Za _) (λe=>by cases e) hk
def lkB(a b c:ByteArray):ByteArray:=((((((((⟨#[91]⟩++a)++⟨#[91]⟩)++b)++⟨#[93,40,120,41]⟩)++c)++⟨#[93,40,121,41,32,33,91]⟩)++a)++⟨#[93,40,122,41]⟩)
theorem Vqh{a b:ByteArray}(n:Nat)(h:a.size+b.size<=n)(hn:n<=1000):((a.size+b.size:Nat):Int)<=IntKind.i64.max:=by
 rw[show IntKind.i64.max=9223372036854775807 from rfl];omega
theorem links_to(a b c:ByteArray)(m:Int):Va2 Tryz.prog 5 [jS a,jS b,jS c] (glL m) [] (jB true) (glL m) []:=by
 have hw:=awk_to m;cases ha:decide (((a.size:Nat):Int)>200)
 case true=>
  refine bGs Tryz.func5 ?_;refine gO (tn 5 (kb ha (kb ha (kb ha (kb ha (tn 1 (kb (b:=true) (d:=true) rfl (kb (b:=true) (d:=true) rfl (kb (b:=true) (d:=true) rfl (kb (b:=true) (d:=true) rfl (kb (b:=true) (d:=true) rfl (kg hw trivial (tn 1 z))))))))))))) ?_;exact eNs
 cases hb:decide (((b.size:Nat):Int)>200)
 case true=>
  refine bGs Tryz.func5 ?_;refine gO (tn 5 (kb ha (tn 1 (kb ha (tn 1 (kb ha (tn 1 (kb ha (tn 1 (kb hb (kb hb (kb hb (kb hb (kb (b:=true) (d:=true) rfl (kg hw trivial (tn 1 z)))))))))))))))) ?_;exact eNs
 cases hc:decide (((c.size:Nat):Int)>200)
 case true=>
  refine bGs Tryz.func5 ?_;refine gO (tn 5 (kb ha (tn 1 (kb ha (tn 1 (kb ha (tn 1 (kb ha (tn 1 (kb hb (tn 1 (kb hb (tn 1 (kb hb (tn 1 (kb hb (kb hc (kg hw trivial (tn 1 z))))))))))))))))))) ?_;exact eNs
 have a1:=of_decide_eq_false ha
 have b1:=of_decide_eq_false hb
 have c1:=of_decide_eq_false hc
 have sz:∀ x:UInt8,(ByteArray.mk #[x]).size=1:=λ_=>rfl
 have e4:(ByteArray.mk #[93,40,120,41]).size=4:=rfl
 have e4':(ByteArray.mk #[93,40,122,41]).size=4:=rfl
 have e7:(ByteArray.mk #[93,40,121,41,32,33,91]).size=7:=rfl
 have hsz:(lkB a b c).size<=820:=by unfold lkB;simp only[Zf,sz,e4,e4',e7];omega
 have hp:=Vkb (lkB a b c) m hsz
 have hl:=lnkB_to (parM (lkB a b c)).1 false (by have:=parM_w (lkB a b c) hsz;omega);rw[lnkB_f _ (parM_lk _ hsz)]at hl
 have z1:(((ByteArray.mk #[91]).size+a.size:Nat):Int)<=IntKind.i64.max:=Vqh 820 (by rw[sz];omega) gj
 have z2:=Vqh (a:=⟨#[91]⟩++a) (b:=⟨#[91]⟩) 820 (by simp only[Zf,sz];omega) gj
 have z3:=Vqh (a:=(⟨#[91]⟩++a)++⟨#[91]⟩) (b:=b) 820 (by simp only[Zf,sz];omega) gj
 have z4:=Vqh (a:=((⟨#[91]⟩++a)++⟨#[91]⟩)++b) (b:=⟨#[93,40,120,41]⟩) 820 (by simp only[Zf,sz,e4];omega) gj
 have z5:=Vqh (a:=(((⟨#[91]⟩++a)++⟨#[91]⟩)++b)++⟨#[93,40,120,41]⟩) (b:=c) 820 (by simp only[Zf,sz,e4];omega) gj
 have z6:=Vqh (a:=((((⟨#[91]⟩++a)++⟨#[91]⟩)++b)++⟨#[93,40,120,41]⟩)++c) (b:=⟨#[93,40,121,41,32,33,91]⟩) 820 (by simp only[Zf,sz,e4,e7];omega) gj
 have z7:=Vqh (a:=(((((⟨#[91]⟩++a)++⟨#[91]⟩)++b)++⟨#[93,40,120,41]⟩)++c)++⟨#[93,40,121,41,32,33,91]⟩) (b:=a) 820 (by simp only[Zf,sz,e4,e7];omega) gj
 have z8:=Vqh (a:=((((((⟨#[91]⟩++a)++⟨#[91]⟩)++b)++⟨#[93,40,120,41]⟩)++c)++⟨#[93,40,121,41,32,33,91]⟩)++a) (b:=⟨#[93,40,122,41]⟩) 820 (by simp only[Zf,sz,e4,e4',e7];omega) gj;refine bGs Tryz.func5 ?_;refine gO (tn 5 (kb ha (tn 1 (kb ha (tn 1 (kb ha (tn 1 (kb ha (tn 1 (kb hb (tn 1 (kb hb (tn 1 (kb hb (tn 1 (kb hb (kb hc (tn 1 (kp z1 (kp z2 (tn 1 (kp z3 (kp z4 (tn 1 (kp z5 (kp z6 (tn 1 (kp z7 (kp z8 (kg hp trivial (tn 6 (kc hl (tn 2 (kb (b:=true) (d:=true) rfl (kg hw trivial (kb (b:=true) (d:=true) rfl (tn 1 z))))))))))))))))))))))))))))))))))))) ?_;exact eNs
end Go.Proofs.YthbpjmogdonlkaaGreatDoor
set_option maxRecDepth 100000
namespace Go.Proofs.YthbpjmogdonlkaaGreatDoor
open Go Go.Eng
end Go.Proofs.YthbpjmogdonlkaaGreatDoor
namespace Go.Eng
open Go.ChangeShapes Go.WideShapes Go.ChangeAt Go.RowKit
def U0(w:World)(b:Nat):Nat:=match w.heap[b]? with
 |some (.cells arr _ _)=>arr.size
 |_=>0
theorem wf0(w:World):Wf ⟨U0 w,λ_=>0,λ_=>none,λ_=>0,[]⟩ w:=
 ⟨λκ κ' b h=>by simp at h,λκ b h=>by simp at h,λb hb=>by simp only[U0];rw[Array.getElem?_eq_none hb]⟩
end Go.Eng
set_option maxRecDepth 100000
namespace Go.Proofs.YthbpjmogdonlkaaGreatDoor
open Go Go.Eng Go.Lib Go.ChangeShapes Go.WideShapes Go.ChangeAt Go.RowKit
def gOw(κ:Key):Option Nat:=if κ=(1999,0)then some 3 else if κ=(1998,0)then some 2 else none
theorem Vjg{κ:Key}{b:Nat}(h:gOw κ=some b):(κ=(1999,0)/\b=3)\/(κ=(1998,0)/\b=2):=by
 unfold gOw at h
 split at h
 ·rename_i e;exact .inl ⟨e,(Zq h).symm⟩
 ·split at h
  ·rename_i e;exact .inr ⟨e,(Zq h).symm⟩
  ·cases h
theorem law_callsG{P:Program}{f:FuncId}{xs:List AV}{m:Int}(h:Va2 P f (xs.map .av) (glL m) [] (jB true) (glL m) []){W:World}{vs:List Value}(hr:RepL (U0 W) W xs vs)
  {t3 t2:Nat} (h3:W.heap[3]? =some (.cells (Lib.pow10Tab.map (λx=>Value.int .u64 x)).toArray t3 (0,0))) (n3:t3≠5) (h2:W.heap[2]? =some (.cells #[.int .i64 m] t2 (0,0))) (n2:t2≠5):
  Calls P f vs.toArray W (λe W'=>e=.returned (.bool true)/\Below W.heap.size W W'):=by
 have l3:3<W.heap.size:=(Array.getElem?_eq_some_iff.1 h3).1
 have hwf:Wf ⟨U0 W,λ_=>0,gOw,λ_=>0,[]⟩ W:=by
  refine⟨λκ κ' b q1 q2=>?_,λκ b q=>?_,(wf0 W).zero⟩
  ·rcases Vjg q1 with⟨e1,e2⟩|⟨e1,e2⟩ <;>rcases Vjg q2 with⟨e3,e4⟩|⟨e3,e4⟩
   ·rw[e1,e3]
   ·omega
   ·omega
   ·rw[e1,e3]
  ·rcases Vjg q with⟨_,e⟩|⟨_,e⟩ <;>omega
 have hu3:1<=U0 W 3:=by unfold U0;rw[h3];exact(by decide:(1:Nat)<=20)
 have hu2:1<=U0 W 2:=by unfold U0;rw[h2];exact(by decide:(1:Nat)<=1)
 refine(h.2 ⟨U0 W,λ_=>0,gOw,λ_=>0,[]⟩ W vs hwf (Vd1 (hr:RepL (Gh.U ⟨U0 W,λ_=>0,gOw,λ_=>0,[]⟩) W xs vs)) ?_ ku).mono ?_
 ·intro p hp;simp only[glL,glP,glM,Zm,Zh,or_false]at hp;rcases hp with rfl|rfl
  ·exact⟨_,_,rfl,h3⟩
  ·exact⟨_,_,rfl,h2⟩
 rintro e w' ⟨v,G',rfl,s1,_,s3,s4,_⟩;simp only[jB,RepS,Rep]at s3;rw[s3.1];refine⟨rfl,s1.os,s1.toExt.tp,s1.output,s1.size,λk hk=>?_⟩
 have g3:=s4 glP (by simp[glL])
 have g2:=s4 (glM m) (by simp[glL])
 by_cases e3:k=3
 ·subst e3;obtain⟨arr,ha⟩:=s1.imm.pln 3 t3 hu3 n3 ⟨_,h3⟩;obtain⟨e,mm,_,hb⟩:=g3;rw[ha]at hb;simp only[Option.some.injEq,Obj.cells.injEq]at hb;rw[ha,h3,hb.1]
 ·by_cases e2:k=2
  ·subst e2;obtain⟨arr,ha⟩:=s1.imm.pln 2 t2 hu2 n2 ⟨_,h2⟩;obtain⟨e,mm,_,hb⟩:=g2;rw[ha]at hb;simp only[Option.some.injEq,Obj.cells.injEq]at hb;rw[ha,h2,hb.1]
  ·exact(s1.stay k hk (λκ q=>by rcases Vjg q with⟨_,e⟩|⟨_,e⟩ <;>omega)).1
theorem pow_block {l : List (String × DataW Unit)} {W : World} (hL : laidMetH Tryz.prog l W) (hh : (l.all λx => x.2.handleName?.isNone) = true) (hm : ("internal/strconv.uint64pow10", (tabData .u64 Lib.pow10Tab : DataW Unit)) ∈ l) (hS : W.ShapedOpen Tryz.prog) :
  W.heap[3]? =some (.cells (Lib.pow10Tab.map (λx=>Value.int .u64 x)).toArray 290 (0,0)):=by
 rw [Go.MakeChecks.laidMetH_plain _ _ _ hh] at hL; obtain ⟨g, t, cs, fuel, p, hg, hty, hv, htr⟩ := Lib.laidMet.reads hL hm; obtain rfl : 3 = g := Zq ((show Tryz.prog.globalNamed "internal/strconv.uint64pow10" = some 3 by kernel_rfl).symm.trans hg); obtain rfl : 290 = t := Zq ((show (Tryz.prog.globals[3]?).map (·.type) = some 290 by kernel_rfl).symm.trans hty)
 have hc:=cells_of_tab (show Tryz.prog.underlying 290=some (.array 20 255) by kernel_rfl) kx kx kx htr;obtain⟨cs',hb,_⟩:=hS.1 3 (Array.replicate 20 (.int .u64 0)) 290 (of_decide_eq_true kx) kx
 have hv' : W.var? Tryz.prog "internal/strconv.uint64pow10" = some cs' := by
  unfold World.var?;rw[hg];simp only[Option.bind_some,hb]
 obtain rfl:cs'=cs:=Zq (hv'.symm.trans hv);rw[hb]
 have:cs'=(Lib.pow10Tab.map (λx=>Value.int .u64 x)).toArray:=by rw[<-hc]
 rw[this]
theorem max_block{W:World}(hS:W.ShapedOpen Tryz.prog):∃ m:Int,W.heap[2]? =some (.cells #[.int .i64 m] 3 (0,0)):=by
 obtain⟨m,hm⟩:=cell_of_shapedOpen_int (k:=.i64) (zero:=#[.int .i64 0]) (t:=3) (g:=2) hS (of_decide_eq_true kx) kx rfl kx kx kx;obtain⟨cs,hb,hs,_⟩:=hS.1 2 #[.int .i64 0] 3 (of_decide_eq_true kx) kx;refine⟨m,?_⟩
 have h1:cs.size=1:=hs;simp only[World.cell?,hb]at hm;obtain⟨l⟩:=cs
 match l,h1,hm with
 |[x],_,hm=>
  have e:x=.int .i64 m:=by simpa using hm
  rw[hb,e]
end Go.Proofs.YthbpjmogdonlkaaGreatDoor
namespace Go.Proofs.YthbpjmogdonlkaaGreatDoor
open Go Go.Eng Go.ChangeShapes Go.WideShapes Go.ChangeAt Go.RowKit
section
variable {H:Type} (enc:TypeId×Value->H) (P:Program) (w:World) (sp:Nat->Bool) (held:Bool)
variable {enc P w sp held}
def One(sz:Nat){α:Type}(f:α->List AV)(g:α->AV):Prop:=
 ∀(U:Nat->Nat)(w:World)(a:α)(us:List Value),RepL U w (f a) us->us.length=sz->(∀v∈us,v.oneCell'=true)->∃ u:Value,Rep U w (g a) u/\u.cells.toList=us
end
end Go.Proofs.YthbpjmogdonlkaaGreatDoor
