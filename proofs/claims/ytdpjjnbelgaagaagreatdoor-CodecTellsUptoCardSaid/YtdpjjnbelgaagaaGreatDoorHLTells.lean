/- CodecTells: whether any data may be, their bytes, what any bytes are, or where they are wrong, and whether two are the same, are the document's; a copy is the same; what was handed in stands. The tables lie as start-up lays them; what comes in is of bulk at most 1048576. Conditions: the row's own. -/
import Derived.Test.YtdpjjnbelgaagaaGreatDoorG27
import Derived.Test.YtdpjjnbelgaagaaGreatDoorG18
import Derived.Test.YtdpjjnbelgaagaaGreatDoorCards
import Derived.Test.YtdpjjnbelgaagaaGreatDoorTie
import Derived.SevenTiedAt
import Derived.Stop.Joined
import Derived.Deep.DeepHandedRow
namespace Go.Proofs.YtdpjjnbelgaagaaGreatDoor.codecTells
open Go.ChangeShapes Go.WideShapes Go.ChangeAt Go.RowKit
open Go.ChangeMaps (open_string shut_string)
set_option maxRecDepth 100000
theorem own:ownKnob Tryz.prog.godebug=none:=by kernel_rfl
theorem laidOut:laidOutB Tryz.prog=true:=by kernel_rfl
theorem door_met (os:Os) (args:Array Value):laidMetH Tryz.prog KD ((World.doorLaid Tryz.prog 400 os).forCall (fun _ _=>0) ⟨#[],args,[]⟩).memory:=
 laidMetH_of_parts3 (fuel:=8) (laidMet_of_run' 8 (by kernel_rfl) (by kernel_rfl)) (by kernel_rfl) (by kernel_rfl)
theorem reads (os:Os) {H:Type} (enc:TypeId×Value→H):∃places,DataW.whole enc Tryz.prog ((World.doorLaid Tryz.prog 400 os).forCall (fun _ _=>0) ⟨#[],#[.agg #[.slice none 0 0,.slice none 0 0],.agg #[.slice none 0 0,.slice none 0 0],.string ⟨#[]⟩],[]⟩).memory Tryz.f6.params.toList Rows.codecTellsSpec.vars false #[(Value.agg #[.slice none 0 0,.slice none 0 0]:Value),(Value.agg #[.slice none 0 0,.slice none 0 0]:Value),(Value.string ⟨#[]⟩:Value)].toList 8=some ([.agg [.nil,.nil],.agg [.nil,.nil],.lit (.string [])],[],places):=
 ⟨[],by kernel_rfl⟩
theorem contract (H:Type) (enc:TypeId×Value→H) (W:World) (base:Nat) (args:Array Value) (ds gs:List (DataW H)) (before:List MemPlace)
 (hval0:∀(j:Nat) t v,Tryz.f6.params[j]?=some t→args[j]?=some v→Value.okWide Tryz.prog W .any base t v)
 (hW:DataW.Whole enc Tryz.prog Tryz.f6.params.toList Rows.codecTellsSpec.vars false W args.toList ds gs before) (hk:Rows.uptoSmall H (ds++gs)=true) (hL:laidMetH Tryz.prog KD W):
 Calls Tryz.prog 6 args W fun e W'=>∃v,e= .returned v∧Rows.codecTellsSpec.post enc Tryz.prog Tryz.f6 false true false false W args v W':=by
 have hW':=hW
 obtain⟨p,q,hA,hV,rfl,hfz,hnd⟩:=hW
 obtain⟨rfl,rfl⟩:=trodVars_none hV
 have hlt:∀x∈p,x.block<W.heap.size:=fun x hx=>hW'.lt x (by simpa using hx)
 have hA0:=hA
 rw[Tryz.params6]at hA
 obtain⟨v0,vs0,d0,ds0,p0,q0,hargs,rfl,rfl,h0,r0'⟩:=trodAll_cons hA
 obtain⟨v1,vs1,d1,ds1,p1,q1,rfl,rfl,rfl,h1,r1'⟩:=trodAll_cons r0'
 obtain⟨v2,vs2,d2,ds2,p2,q2,rfl,rfl,rfl,h2,r2'⟩:=trodAll_cons r1'
 obtain⟨rfl,rfl,rfl⟩:=trodAll_nil r2'
 obtain rfl:args= #[v0,v1,v2]:=by cases args;simp_all
 have hbulk:Rows.uptoBulkAll ([d0,d1,d2]++ [])≤1048576:=of_decide_eq_true hk
 simp only[List.cons_append,List.nil_append,Rows.uptoBulkAll]at hbulk
 obtain⟨cs0,rfl,hsz0⟩:=okWide_struct Tryz.underlying41 (hval0 0 41 v0 rfl rfl)
 obtain⟨fuel0,hf0⟩:=h0
 obtain⟨e0,vr0,vi0,hcs0,hd0,hw0⟩:=Hy fuel0 _ _ hf0 (by simp only;omega)
 obtain rfl:cs0= #[vr0,vi0]:=by
  obtain⟨l⟩:=cs0
  exact congrArg Array.mk hcs0
 simp only at hw0
 obtain⟨cs1,rfl,hsz1⟩:=okWide_struct Tryz.underlying41 (hval0 1 41 v1 rfl rfl)
 obtain⟨fuel1,hf1⟩:=h1
 obtain⟨e1,vr1,vi1,hcs1,hd1,hw1⟩:=Hy fuel1 _ _ hf1 (by simp only;omega)
 obtain rfl:cs1= #[vr1,vi1]:=by
  obtain⟨l⟩:=cs1
  exact congrArg Array.mk hcs1
 simp only at hw1
 obtain⟨s2,rfl,rfl,rfl,hmax2⟩:=open_string Tryz.underlying9 (hval0 2 9 v2 rfl rfl) h2
 have hs2:s2.size≤9223372036854775807:=by
  simp only[maxLen]at hmax2
  omega
 obtain⟨hW2,hO2⟩:=O7 hL
 refine(I3 e0 e1 _ _ _ _ s2 W hd0 hd1 (by omega) (by omega) hs2 hW2 hO2).mono fun e W' ⟨he,bel⟩=> ?_
 subst he
 refine⟨_,rfl,_,[],_,[],(p0++(p1++([]++ []))),[],hW',?_,?_,?_,bel.frame _,fun h=>by cases h⟩
 ·exact trodAll_mk1 (shut_bool Tryz.underlying4 _)
 ·rw[List.append_nil]
  exact G9 laidOut bel _ _ _ _ (by kernel_rfl) hA0 hlt
 ·rfl
theorem lifted (os:Os) (started:os.Started) (H:Type) (enc:TypeId×Value→H) (F:Stop.Interp):
 ReturnsInHanded {} Tryz.checked os 6 .any ((Rows.OpenSpec.upto Rows.codecTellsSpec).preRow enc Tryz.prog Tryz.f6 Rows.codecTellsUptoRow.domain false Rows.codecTellsUptoRow.laid) (((Rows.OpenSpec.upto Rows.codecTellsSpec).at F).post enc Tryz.prog Tryz.f6 false true false false):=by
 obtain⟨places,hx⟩:=reads os enc
 refine returnsInHanded_of_row (C:=Tryz.checked) (s:=Rows.OpenSpec.upto Rows.codecTellsSpec) own started (by kernel_rfl) Tryz.func6
  ⟨World.doorLaid Tryz.prog 400 os,fun _ _=>0,⟨#[],#[.agg #[.slice none 0 0,.slice none 0 0],.agg #[.slice none 0 0,.slice none 0 0],.string ⟨#[]⟩],[]⟩,rfl,World.shaped_of_RefB (by kernel_rfl) (by kernel_rfl),rfl,(Input.okWide_of_okWideB (by kernel_rfl)).2,
    OpenSpec.preRow_of_cond 8 hx (by kernel_rfl) (fun k hk=>by cases hk;kernel_rfl) (by kernel_rfl) (door_met os _),by
     simp only[Assume.holds]
     exact⟨by simp,by simp,fun _=>Modest.zero,by simp,by simp⟩⟩ ?_
 intro W base args ds gs before hval hW _ hcond _ hL _ _
 exact contract H enc W base args ds gs before hval hW (hcond _ rfl) hL
theorem law_holds:Rows.CodecTellsUptoSaid:=
 OpenClaim.holds_of_cond 6 Tryz.f6 rfl rfl rfl rfl rfl rfl rfl ⟨rfl,rfl,rfl,rfl,rfl⟩ rfl rfl rfl rfl rfl (by kernel_rfl) Tryz.func6 (by kernel_rfl)
  (of_decide_eq_true (by kernel_rfl)) (by unfold Func.isWrapper;first|(rw[if_pos (by decide+kernel)];kernel_rfl)|(rw[if_neg (by decide+kernel)];exact⟨rfl,rfl⟩))
  (fun os started H enc _ F=>by rw[OpenClaim.pre_eq_preRow];exact lifted os started H enc F)
end Go.Proofs.YtdpjjnbelgaagaaGreatDoor.codecTells
namespace Go.Proofs.YtdpjjnbelgaagaaGreatDoor
set_option maxRecDepth 100000
theorem codecTells_card:Rows.CodecTellsUptoCardSaid:=
 Claim7.holds_tied_plain_at .later [] _ _ _ _
  codecTells.law_holds (fun _ h=>by cases h) (by kernel_rfl) (fun _ h=>by cases h) codecTellsUpto_row_tie rfl ⟨rfl,rfl⟩ (by kernel_rfl) rfl
  (fun f fn hf hfn=>by
    obtain rfl:f=6:=Option.some.inj ((show Tryz.prog.funcNamed "chandlery/chandlerylaw11.CodecTells" =some 6 by kernel_rfl).symm.trans hf)|>.symm
    obtain rfl:fn=Tryz.f6:=(Option.some.inj (Tryz.func6.symm.trans hfn)).symm
    exact⟨by kernel_rfl,fun j t ht=>by
     rw[Tryz.params6]at ht
     have hm:t∈ [41,41,9]:=by simpa using Array.mem_of_getElem? ht
     have hall:([41,41,9].all fun u=> !Tryz.prog.wantsStandIn u)=true:=by kernel_rfl
     exact(show Tryz.prog.wantsStandIn t=false by simpa using List.all_eq_true.1 hall t hm)⟩)
  (by kernel_rfl)
end Go.Proofs.YtdpjjnbelgaagaaGreatDoor
