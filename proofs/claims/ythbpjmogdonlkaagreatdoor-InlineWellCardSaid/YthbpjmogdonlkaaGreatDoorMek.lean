/- Texts joined by a program (merge.py). -/
import Derived.Test.YthbpjmogdonlkaaGreatDoorMeg
import Derived.Test.YthbpjmogdonlkaaGreatDoorMeh
import Derived.Test.YthbpjmogdonlkaaGreatDoorMej
import Derived.Test.YthbpjmogdonlkaaGreatDoorCards
import Derived.Test.YthbpjmogdonlkaaGreatDoorTie
import Derived.ProofKit
import Derived.JoinedCond
import Derived.WalkKit
import Derived.OpenShut
import Derived.SevenTiedAt
import Derived.Carry
set_option linter.unusedSimpArgs false
set_option linter.unusedVariables false
set_option maxRecDepth 100000
set_option maxHeartbeats 4000000
open Go.Proofs.Tryz renaming prog->Za,checked->Zc,func8->Zd,f8->Ze
open Go.OpenSpec renaming ofChange->Zb
namespace Go.Proofs.YthbpjmogdonlkaaGreatDoor
open Go Go.Eng Go.ChangeShapes Go.WideShapes Go.ChangeAt Go.RowKit Go.ChangeMaps
theorem in_reads(os:Os){H:Type}(enc:TypeId×Value->H):∃ places,DataW.whole enc Za ((World.laidAll Za os Rows.inlineWellRow.laid).forCall (λ_ _=>0) ⟨#[],#[.string ⟨#[]⟩],[]⟩).memory Tryz.f8.params.toList Rows.inlineWellSpec.vars false #[Value.string ⟨#[]⟩].toList 8=some ([.lit (.string [])],[],places):=
 ⟨[],kx⟩
theorem Vj8(os:Os)(started:os.Started)(H:Type)(enc:TypeId×Value->H)(F:Stop.Interp):
  ReturnsInHanded {} Zc os 8 .any ((Zb Rows.inlineWellSpec).preRow enc Za Ze Rows.inlineWellRow.domain false Rows.inlineWellRow.laid) (((Zb Rows.inlineWellSpec).at F).post enc Za Ze false true false false):=by
 obtain⟨places,hx⟩:=in_reads os enc;refine returnsInHanded_of_row (C:=Zc) (s:=Zb Rows.inlineWellSpec) Tryz.own started kx Zd
  (witness_row_atRef (enc:=enc) (C:=Zc) false (World.laidAll Za os Rows.inlineWellRow.laid) #[.string ⟨#[]⟩] (World.laidAll_os _ _ _) (laid_vars os _) (laid_rest os _) kx
   (OpenSpec.preRow_of_cond 8 hx kx (λk hk=>by cases hk) kx (laid_met os _))) ?_
 intro W base args ds gs before hval0 hW _ hcond _ hL hS _;have hval:∀(j:Nat) t v,Tryz.f8.params[j]? =some t->args[j]? =some v->Value.okWide Za W .any base t v:=hval0;have hW':=hW;obtain⟨p,q,hA0,hV,rfl,hfz,hnd⟩:=hW';have hA:DataW.TrodAll enc Za W 0 (λ_=>true) true Tryz.f8.params.toList args.toList ds p:=hA0;rw[Tryz.params8]at hA hval;obtain⟨v0,d0,rfl,rfl,h0⟩:=trodAll_one hA;obtain⟨rfl,rfl⟩:=trodVars_none hV;simp only[List.append_nil]at hW;have hlt:∀ x∈p,x.block<W.heap.size:=λx hx=>by simpa using hW.lt x (by simpa using hx)
 obtain⟨s,rfl⟩:=okWide_string Tryz.underlying9 (hval 0 9 v0 rfl rfl);obtain⟨n0,f0⟩:=h0;have hr:RepL (U0 W) W [.val (.string s)] [.string s]:=⟨_,_,rfl,⟨rfl,rfl⟩,rfl⟩
 obtain⟨m,h2⟩:=max_block hS;have h3:=pow_block hL kx (List.Mem.tail _ (List.Mem.tail _ (List.Mem.head _))) hS;refine(law_callsG (xs:=[.val (.string s)]) (well_to s m) hr h3 gj h2 gj).mono λe W' ⟨he,hb'⟩=>?_
 subst he;refine⟨_,rfl,_,_,_,[],p,[],hW,?_,?_,rfl,hb'.frame _,λh=>by cases h⟩
 ·exact trodAll_mk1 (shut_bool Tryz.underlying4 true)
 ·exact trodAll_mk1 (Below.trod Tryz.laidOut kx (of_decide_eq_true kx) ⟨n0,f0⟩ hb' (λx hx=>hlt x (by simp[hx])))
theorem Vlh:Rows.InlineWellSaid:=
 OpenClaim.holds_of_cond 8 Ze rfl rfl rfl rfl rfl rfl rfl ⟨rfl,rfl,rfl,rfl,rfl⟩ rfl rfl rfl rfl rfl kx Zd iwlf_all
  (of_decide_eq_true kx) (by unfold Func.isWrapper;first|(rw[if_pos (by decide +kernel)];kernel_rfl)|(rw[if_neg (by decide +kernel)];exact⟨rfl,rfl⟩))
  (λos started H enc _ F=>by rw[OpenClaim.pre_eq_preRow];exact Vj8 os started H enc F)
end Go.Proofs.YthbpjmogdonlkaaGreatDoor
