/- Texts joined by a program (merge.py). -/
import Derived.Test.YthbpjmogdonlkaaGreatDoorMhh
import Derived.Test.YthbpjmogdonlkaaGreatDoorMhi
import Derived.Test.YthbpjmogdonlkaaGreatDoorMhk
import Derived.Test.YthbpjmogdonlkaaGreatDoorCards
import Derived.Test.YthbpjmogdonlkaaGreatDoorTie
import Derived.ProofKit
import Derived.JoinedCond
import Derived.WalkKit
import Derived.OpenShut
import Derived.SevenTiedAt
import Derived.Carry
set_option linter.unusedSimpArgs false
set_option linter.unusedVariables false
set_option maxRecDepth 100000
set_option maxHeartbeats 4000000
namespace Go.Proofs.YthbpjmogdonlkaaGreatDoor
open Go Go.Eng Go.ChangeShapes Go.WideShapes Go.ChangeAt Go.RowKit Go.ChangeMaps
theorem in_reads(os:Os){H:Type}(enc:TypeId×Value->H):∃ places,DataW.whole enc Tryz.prog ((World.laidAll Tryz.prog os Rows.inlineWhiteRow.laid).forCall (λ_ _=>0) ⟨#[],#[.string ⟨#[]⟩,.int .u8 0],[]⟩).memory Tryz.f4.params.toList Rows.inlineWhiteSpec.vars false #[Value.string ⟨#[]⟩,Value.int .u8 0].toList 8=some ([.lit (.string []),.lit (.int .u8 0)],[],places):=
 ⟨[],by kernel_rfl⟩
theorem Vho(os:Os)(started:os.Started)(H:Type)(enc:TypeId×Value->H)(F:Stop.Interp):
  ReturnsInHanded {} Tryz.checked os 4 .any ((OpenSpec.ofChange Rows.inlineWhiteSpec).preRow enc Tryz.prog Tryz.f4 Rows.inlineWhiteRow.domain false Rows.inlineWhiteRow.laid) (((OpenSpec.ofChange Rows.inlineWhiteSpec).at F).post enc Tryz.prog Tryz.f4 false true false false):=by
 obtain⟨places,hx⟩:=in_reads os enc;refine returnsInHanded_of_row (C:=Tryz.checked) (s:=OpenSpec.ofChange Rows.inlineWhiteSpec) Tryz.own started kx Tryz.func4
  (witness_row_atRef (enc:=enc) (C:=Tryz.checked) false (World.laidAll Tryz.prog os Rows.inlineWhiteRow.laid) #[.string ⟨#[]⟩,.int .u8 0] (World.laidAll_os _ _ _) (laid_vars os _) (laid_rest os _) kx
   (OpenSpec.preRow_of_cond 8 hx kx (λk hk=>by cases hk) kx (laid_met os _))) ?_
 intro W base args ds gs before hval0 hW _ hcond _ hL hS _
 have hval:∀(j:Nat) t v,Tryz.f4.params[j]? =some t->args[j]? =some v->Value.okWide Tryz.prog W .any base t v:=hval0
 have hW':=hW;obtain⟨p,q,hA0,hV,rfl,hfz,hnd⟩:=hW'
 have hA:DataW.TrodAll enc Tryz.prog W 0 (λ_=>true) true Tryz.f4.params.toList args.toList ds p:=hA0;rw[Tryz.params4]at hA hval;obtain⟨v0,v1,d0,d1,p0,p1,rfl,rfl,rfl,h0,h1⟩:=trodAll_two hA;obtain⟨rfl,rfl⟩:=trodVars_none hV;obtain⟨x,rfl,rfl,rfl,hx8⟩:=open_int Tryz.underlying5 (hval 1 5 v1 rfl rfl) h1
 have hx0:(0:Int)<=x/\x<=255:=by
  simp only[Lit.wf,Bool.and_eq_true,decide_eq_true_eq]at hx8;exact hx8
 obtain⟨k,hk⟩:∃ k:UInt8,x=((k.toNat:Nat):Int):=⟨UInt8.ofNat x.toNat,by rw[UInt8.toNat_ofNat'];omega⟩
 subst hk;simp only[List.append_nil,List.nil_append]at hW
 have hlt:∀ x∈p0,x.block<W.heap.size:=λx hx=>by simpa using hW.lt x (by simpa using hx)
 obtain⟨s,rfl⟩:=okWide_string Tryz.underlying9 (hval 0 9 v0 rfl rfl);obtain⟨n0,f0⟩:=h0
 have hr:RepL (U0 W) W [.val (.string s),aByt k] [.string s,.int .u8 ((k.toNat:Nat):Int)]:=⟨_,_,rfl,⟨rfl,rfl⟩,_,_,rfl,⟨rfl,rfl⟩,rfl⟩
 obtain⟨m,h2⟩:=max_block hS
 have h3:=pow_block hL kx (List.Mem.tail _ (List.Mem.tail _ (List.Mem.head _))) hS;refine(law_callsG (xs:=[.val (.string s),aByt k]) (white_to s k m) hr h3 gj h2 gj).mono λe W' ⟨he,hb'⟩=>?_
 subst he;refine⟨_,rfl,_,_,_,[],p0++[],[],hW,?_,?_,rfl,hb'.frame _,λh=>by cases h⟩
 ·exact trodAll_mk1 (shut_bool Tryz.underlying4 true)
 ·exact trodAll_mk2 (Below.trod Tryz.laidOut kx (of_decide_eq_true kx) ⟨n0,f0⟩ hb' (λx hx=>hlt x (by simp[hx]))) (shut_int Tryz.underlying5 hx8)
theorem Vjf:Rows.InlineWhiteSaid:=
 OpenClaim.holds_of_cond 4 Tryz.f4 rfl rfl rfl rfl rfl rfl rfl ⟨rfl,rfl,rfl,rfl,rfl⟩ rfl rfl rfl rfl rfl kx Tryz.func4 ihf_all
  (of_decide_eq_true kx) (by unfold Func.isWrapper;first|(rw[if_pos (by decide +kernel)];kernel_rfl)|(rw[if_neg (by decide +kernel)];exact⟨rfl,rfl⟩))
  (λos started H enc _ F=>by rw[OpenClaim.pre_eq_preRow];exact Vho os started H enc F)
end Go.Proofs.YthbpjmogdonlkaaGreatDoor
