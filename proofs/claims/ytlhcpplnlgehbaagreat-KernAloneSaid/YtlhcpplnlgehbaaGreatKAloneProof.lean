/- The law KernAlone: for any number and any rows the Go text answers true and leaves what it was given as it was. No condition. The walk is by contracts over rows that lie apart (KAlone), sound by PTop. -/
import Derived.OpenShut
import Derived.ProofKit
import Derived.Test.YtlhcpplnlgehbaaGreatKAloneFacts
import Derived.Test.YtlhcpplnlgehbaaGreatM10
import Derived.Test.YtlhcpplnlgehbaaGreatM4
import Derived.Test.YtlhcpplnlgehbaaGreatRows
import Derived.WalkKit
set_option linter.unusedVariables false
set_option linter.unusedSimpArgs false
set_option maxRecDepth 100000
namespace Go.Proofs.YtlhcpplnlgehbaaGreat.kernAlone
open Go.ChangeShapes Go.WideShapes Go.ChangeAt Go.RowKit
theorem own:ownKnob Tryz.prog.godebug=none:=by kernel_rfl
theorem Bk:Tryz.prog.cellsOf 3=1:=by kernel_rfl
theorem Fs:Tryz.prog.cellsOf 39=1:=by kernel_rfl
theorem OG:((List.range Tryz.prog.types.size).all fun t=>match Tryz.prog.underlying t with|some (.slice e)=>decide (0<Tryz.prog.cellsOf e)|_=>true)=true:=by kernel_rfl
theorem three:(Tryz.prog.types.size>56):=by
 have h:decide (Tryz.prog.types.size>56)=true:=by kernel_rfl
 exact of_decide_eq_true h
theorem lifted (os:Os) (started:os.Started) (H:Type) (enc:TypeId×Value→H):
 ReturnsInHanded {} Tryz.checked os 7 .any (Rows.kernAloneSpec.pre6 enc Tryz.prog Tryz.f7 Rows.kernAloneRow.domain false) (Rows.kernAloneSpec.post enc Tryz.prog Tryz.f7 false true false false):=by
 refine returnsInHanded_of_change (C:=Tryz.checked) own started (by kernel_rfl) Tryz.func7
  (ChangeSpec.witness6 (enc:=enc) (C:=Tryz.checked) false ⟨#[],#[.int .i64 0,.slice none 0 0,.slice none 0 0],[]⟩ 8 (by kernel_rfl) (by kernel_rfl) (by kernel_rfl) (by kernel_rfl)) ?_
 intro W base args ds gs before Sl hW z7L _
 have tH: ∀(j:Nat) t v,Tryz.f7.params[j]? =some t→args[j]? =some v→Value.okWide Tryz.prog W .any base t v:=Sl
 have Az:=hW
 obtain⟨p,q,hA0,hV,rfl,HU,B0⟩:=hW
 have hA:DataW.TrodAll enc Tryz.prog W 0 (fun _=>true) true Tryz.f7.params.toList args.toList ds p:=hA0
 have hA1:=hA
 rw [Tryz.params7]at hA tH
 obtain⟨v0,vs0,d0,ds0,p0,q0,W7,rfl,rfl,h0,r0⟩:=trodAll_cons hA
 obtain⟨v1,vs1,d1,ds1,p1,q1,rfl,rfl,rfl,h1,r1⟩:=trodAll_cons r0
 obtain⟨v2,vs2,d2,ds2,p2,q2,rfl,rfl,rfl,h2,r2⟩:=trodAll_cons r1
 obtain⟨rfl,rfl,rfl⟩:=trodAll_nil r2
 obtain rfl:args= #[v0,v1,v2]:=by cases args;simp_all
 obtain⟨rfl,rfl⟩:=trodVars_none hV
 obtain⟨a0,rfl,rfl,rfl,w0⟩:=open_int Tryz.underlying3 (tH 0 3 v0 rfl rfl) h0
 have s1:=EB Tryz.underlying56 (tH 1 56 v1 rfl rfl)
 have s2:=EB Tryz.underlying39 (tH 2 39 v2 rfl rfl)
 obtain⟨f1,t1⟩:=h1
 obtain⟨f2,t2⟩:=h2
 obtain⟨u1,ls,e1,hR⟩:=Is Tryz.underlying56 Tryz.underlying39 Fs Tryz.underlying3 Bk t1
 obtain⟨u2,l,e2,hI⟩:=eD Tryz.underlying39 Tryz.underlying3 Bk t2
 have c1:v1.cells.toList= [v1]:=by rcases s1 with rfl|⟨⟨a,len,cap,rfl⟩,_⟩<;>rfl
 have c2:v2.cells.toList= [v2]:=by rcases s2 with rfl|⟨⟨a,len,cap,rfl⟩,_⟩<;>rfl
 rw [c1]at e1
 rw [c2]at e2
 cases e1
 cases e2
 have hz:(v1= .slice none 0 0∧v2= .slice none 0 0)∨0<W.heap.size:=by
  rcases s1 with s1|s1
  ·rcases s2 with s2|s2
   ·exact .inl ⟨s1,s2⟩
   exact .inr s2.2
  exact .inr s1.2
 have hw0: -9223372036854775808≤a0∧a0≤9223372036854775807:=by
  simp only [Lit.wf,IntKind.min,IntKind.max,IntKind.signed,IntKind.bits,Bool.and_eq_true,decide_eq_true_eq,if_true]at w0
  omega
 refine(tJ a0 hw0 hR hI hz).mono fun e W' ⟨he,hB,hf⟩=> ?_
 subst he
 have hg:=Go.Px.CS hB hf
 exact⟨_,rfl,post_of_same (pa:=_) (pv:= []) Az (fun _ _ _=>(trodAll_cons_mk (shut_bool Tryz.underlying4 _) trodAll_mk0))
  (fun sp dQ=>aJ Di eX OG hB (fun t ht=>by
   have HH:=three
   rw [Tryz.params7]at ht
   simp only [List.mem_cons,List.not_mem_nil,or_false]at ht
   rcases ht with rfl|rfl|rfl
   ·exact Nat.lt_trans (by decide) HH
   ·exact HH
   exact Nat.lt_trans (by decide) HH) hA1 fun p hp=>dQ p (List.mem_append_left _ hp))
  (fun _ _=>rfl) rfl (hg.frame _) hg.2.1 (ok_one (by kernel_rfl) rfl (okWide_bool_mk Tryz.underlying4 _))⟩
theorem z2Q:Rows.kernAloneRow.holds Tryz.pinned (OpenSpec.ofChange Rows.kernAloneSpec):=
 OpenClaim.holds_of_wide 7 Tryz.f7 rfl rfl rfl rfl rfl rfl rfl ⟨rfl,rfl,rfl,rfl,rfl⟩ rfl rfl rfl rfl rfl (by kernel_rfl) Tryz.func7 facts
  (of_decide_eq_true (by kernel_rfl)) (by unfold Func.isWrapper;first|(rw [if_pos (by decide+kernel)];kernel_rfl)|(rw [if_neg (by decide+kernel)];exact⟨rfl,rfl⟩))
  (fun os started H enc _=>lifted os started H enc)
theorem proved:Rows.KernAloneSaid:=
 z2Q
end Go.Proofs.YtlhcpplnlgehbaaGreat.kernAlone
