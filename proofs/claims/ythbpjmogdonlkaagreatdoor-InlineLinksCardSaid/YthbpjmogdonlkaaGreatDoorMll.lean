/- Texts joined by a program (merge.py). -/
import Derived.Test.YthbpjmogdonlkaaGreatDoorMlh
import Derived.Test.YthbpjmogdonlkaaGreatDoorMli
import Derived.Test.YthbpjmogdonlkaaGreatDoorMlk
import Derived.Test.YthbpjmogdonlkaaGreatDoorCards
import Derived.Test.YthbpjmogdonlkaaGreatDoorTie
import Derived.ProofKit
import Derived.JoinedCond
import Derived.WalkKit
import Derived.OpenShut
import Derived.SevenTiedAt
import Derived.Carry
set_option linter.unusedSimpArgs false
set_option linter.unusedVariables false
set_option maxRecDepth 100000
set_option maxHeartbeats 4000000
namespace Go.Proofs.YthbpjmogdonlkaaGreatDoor
open Go Go.Eng Go.ChangeShapes Go.WideShapes Go.ChangeAt Go.RowKit Go.ChangeMaps
theorem in_reads(os:Os){H:Type}(enc:TypeId×Value->H):∃ places,DataW.whole enc Tryz.prog ((World.laidAll Tryz.prog os Rows.inlineLinksRow.laid).forCall (λ_ _=>0) ⟨#[],#[.string ⟨#[]⟩,.string ⟨#[]⟩,.string ⟨#[]⟩],[]⟩).memory Tryz.f5.params.toList Rows.inlineLinksSpec.vars false #[Value.string ⟨#[]⟩,Value.string ⟨#[]⟩,Value.string ⟨#[]⟩].toList 8=some ([.lit (.string []),.lit (.string []),.lit (.string [])],[],places):=
 ⟨[],by kernel_rfl⟩
theorem Vhc(os:Os)(started:os.Started)(H:Type)(enc:TypeId×Value->H)(F:Stop.Interp):
  ReturnsInHanded {} Tryz.checked os 5 .any ((OpenSpec.ofChange Rows.inlineLinksSpec).preRow enc Tryz.prog Tryz.f5 Rows.inlineLinksRow.domain false Rows.inlineLinksRow.laid) (((OpenSpec.ofChange Rows.inlineLinksSpec).at F).post enc Tryz.prog Tryz.f5 false true false false):=by
 obtain⟨places,hx⟩:=in_reads os enc;refine returnsInHanded_of_row (C:=Tryz.checked) (s:=OpenSpec.ofChange Rows.inlineLinksSpec) Tryz.own started kx Tryz.func5
  (witness_row_atRef (enc:=enc) (C:=Tryz.checked) false (World.laidAll Tryz.prog os Rows.inlineLinksRow.laid) #[.string ⟨#[]⟩,.string ⟨#[]⟩,.string ⟨#[]⟩] (World.laidAll_os _ _ _) (laid_vars os _) (laid_rest os _) kx
   (OpenSpec.preRow_of_cond 8 hx kx (λk hk=>by cases hk) kx (laid_met os _))) ?_
 intro W base args ds gs before hval0 hW _ hcond _ hL hS _
 have hval:∀(j:Nat) t v,Tryz.f5.params[j]? =some t->args[j]? =some v->Value.okWide Tryz.prog W .any base t v:=hval0
 have hW':=hW;obtain⟨p,q,hA0,hV,rfl,hfz,hnd⟩:=hW'
 have hA:DataW.TrodAll enc Tryz.prog W 0 (λ_=>true) true Tryz.f5.params.toList args.toList ds p:=hA0;rw[Tryz.params5]at hA hval;obtain⟨v0,v1,v2,d0,d1,d2,p0,p1,p2,rfl,rfl,rfl,h0,h1,h2⟩:=trodAll_three hA;obtain⟨rfl,rfl⟩:=trodVars_none hV;simp only[List.append_nil,List.append_assoc]at hW
 have hlt:∀ x∈p0++(p1++p2),x.block<W.heap.size:=λx hx=>by simpa using hW.lt x (by simpa using hx)
 obtain⟨a,rfl⟩:=okWide_string Tryz.underlying9 (hval 0 9 v0 rfl rfl);obtain⟨b,rfl⟩:=okWide_string Tryz.underlying9 (hval 1 9 v1 rfl rfl);obtain⟨c,rfl⟩:=okWide_string Tryz.underlying9 (hval 2 9 v2 rfl rfl);obtain⟨n0,f0⟩:=h0;obtain⟨n1,f1⟩:=h1;obtain⟨n2,f2⟩:=h2
 have hr:RepL (U0 W) W [.val (.string a),.val (.string b),.val (.string c)] [.string a,.string b,.string c]:=⟨_,_,rfl,⟨rfl,rfl⟩,_,_,rfl,⟨rfl,rfl⟩,_,_,rfl,⟨rfl,rfl⟩,rfl⟩
 obtain⟨m,g2⟩:=max_block hS
 have g3:=pow_block hL kx (List.Mem.tail _ (List.Mem.tail _ (List.Mem.head _))) hS;refine(law_callsG (xs:=[.val (.string a),.val (.string b),.val (.string c)]) (links_to a b c m) hr g3 gj g2 gj).mono λe W' ⟨he,hb'⟩=>?_
 subst he;refine⟨_,rfl,_,_,_,[],p0++(p1++p2),[],hW,?_,?_,rfl,hb'.frame _,λh=>by cases h⟩
 ·exact trodAll_mk1 (shut_bool Tryz.underlying4 true)
 ·exact trodAll_mk3 (Below.trod Tryz.laidOut kx (of_decide_eq_true kx) ⟨n0,f0⟩ hb' (λx hx=>hlt x (by simp[hx]))) (Below.trod Tryz.laidOut kx (of_decide_eq_true kx) ⟨n1,f1⟩ hb' (λx hx=>hlt x (by simp[hx]))) (Below.trod Tryz.laidOut kx (of_decide_eq_true kx) ⟨n2,f2⟩ hb' (λx hx=>hlt x (by simp[hx])))
theorem Vj5:Rows.InlineLinksSaid:=
 OpenClaim.holds_of_cond 5 Tryz.f5 rfl rfl rfl rfl rfl rfl rfl ⟨rfl,rfl,rfl,rfl,rfl⟩ rfl rfl rfl rfl rfl kx Tryz.func5 ilf_all
  (of_decide_eq_true kx) (by unfold Func.isWrapper;first|(rw[if_pos (by decide +kernel)];kernel_rfl)|(rw[if_neg (by decide +kernel)];exact⟨rfl,rfl⟩))
  (λos started H enc _ F=>by rw[OpenClaim.pre_eq_preRow];exact Vhc os started H enc F)
end Go.Proofs.YthbpjmogdonlkaaGreatDoor
