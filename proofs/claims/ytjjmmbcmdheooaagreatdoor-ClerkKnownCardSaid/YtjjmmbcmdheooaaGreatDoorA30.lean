/- Part 30 of the proof of a statement of this seat (a logic of pure contracts; the functions; their contracts). No conditions. -/
import Derived.Test.YtjjmmbcmdheooaaGreatDoorA29
open Go.ChangeSpec renaming witness_shaped->a8
open Go.MakeChecks renaming laidMetH_plain->be
open Go.OpenClaim renaming holds_of_wide->bi
open Go.OpenSpec renaming ofChange->ap
open Go.Proofs.Tryz renaming prog->ad,f3->an,checked->az,func3->a7,params3->bk
open Option.some renaming inj->a6
set_option maxRecDepth 100000
namespace Go.Px
open Go.Proofs Go.Proofs.YtjjmmbcmdheooaaGreatDoor
open Go.ChangeShapes Go.WideShapes Go.ChangeAt Go.RowKit
theorem vD (os:Os)(a:os.Started)(H:Type)(enc:TypeId×Value->H):
  ReturnsInHanded {} az os 3 .any (λw args=>(Rows.clerkKnownSpec.pre enc ad an Rows.clerkKnownRow.domain false w args/\laidMetH ad Rows.clerkKnownRow.laid w)/\sizedMet enc ad an (ap Rows.clerkKnownSpec) false w args) (Rows.clerkKnownSpec.post enc ad an false true false false):=by
 refine JG (C:=az) own a zw a7
  (a8 (enc:=enc) (C:=az) (os:=os) (X:=λw _=>laidMetH ad Rows.clerkKnownRow.laid w) false (World.laidAll ad os Rows.clerkKnownRow.laid) #[] 8 (World.laidAll_os _ _ _)
    (World.shaped_of_ZipB zw zw) zw zw zw
    (by rw[be _ _ _ zw];exact laidMet_laidAll _ zw zw)) (by rw[bk]) 4 zw zw rfl rfl (λW b c=>UK b c) SO
theorem ke {a b:Bool}(h:a=true)(g:b=true):(a&&b)=true:=by rw[h,g];rfl
theorem jf0:(Rows.clerkKnownRow.wf (ap Rows.clerkKnownSpec))=true:=zw
theorem jf1:(laidOutB ad)=true:=zw
theorem jf2:(mapsRowed ad)=true:=zw
theorem jf3:(an.params.all (ad.readableRec ·))=true:=zw
theorem jf4:(namedTie ad Rows.clerkKnownRow.named Rows.clerkKnownSpec.vars)=true:=zw
theorem jf5:((Rows.clerkKnownRow.stops==[]))=true:=zw
theorem jf6:((ad.stops==[]))=true:=zw
theorem jf7:((Rows.clerkKnownRow.knobs==[]))=true:=zw
theorem jf8:((ad.stopKnobs==[]))=true:=zw
theorem jf9:((Rows.clerkKnownRow.inPlace==ad.inPlace 3))=true:=zw
theorem abn:((Rows.clerkKnownRow.unfollowed==ad.unfollowed 3))=true:=zw
theorem aa7:((Rows.clerkKnownRow.recurses==ad.recurses 3))=true:=zw
theorem abN:((Rows.clerkKnownRow.named==ad.varsNamed 3))=true:=zw
theorem abQ:((Rows.clerkKnownRow.maps==(an.params.toList++Rows.clerkKnownSpec.plain.varTypes ad).any (ad.mapsRec ·)))=true:=zw
theorem aaW:((Rows.clerkKnownRow.ifaces==(an.params.toList++Rows.clerkKnownSpec.plain.varTypes ad).any (ad.ifacesRec ·)))=true:=zw
theorem abV:((Rows.clerkKnownRow.mapsOut==ad.mapsAmong an.resultTypes.toList))=true:=zw
theorem abF:((Rows.clerkKnownRow.loops==(an.params.toList++Rows.clerkKnownSpec.plain.varTypes ad).any (ad.loopsFrom ·)))=true:=zw
theorem abh:((Rows.clerkKnownRow.wideKeys==(an.params.toList++Rows.clerkKnownSpec.plain.varTypes ad++an.resultTypes.toList).any (ad.wideKeysFrom ·)))=true:=zw
theorem aa3:(Rows.clerkKnownSpec.vars.all (ad.varReadable ·))=true:=zw
theorem abu:(an.resultTypes.all (λt=>ad.readableRec t&&decide (t<ad.types.size)))=true:=zw
theorem abb:((Rows.clerkKnownRow.ifacesOut==an.resultTypes.toList.any (ad.ifacesRec ·)))=true:=zw
theorem abO:((Rows.clerkKnownRow.loopsOut==an.resultTypes.toList.any (ad.loopsFrom ·)))=true:=zw
theorem aby:((Rows.clerkKnownRow.plainKeys==ad.plainKeys))=true:=zw
theorem abc:(Rows.clerkKnownRow.shortTexts.isNone)=true:=zw
theorem abT:(ad.stopsHeard)=true:=zw
theorem abK:(ad.mayEnter)=true:=zw
theorem aaV:((Rows.clerkKnownRow.lifted==ad.liftsFinal))=true:=zw
theorem abG:((ad.make==some Rows.clerkKnownRow.make))=true:=zw
theorem abe:((Rows.clerkKnownRow.kinds==(if Rows.clerkKnownRow.domain.isEmpty then[]else an.params.toList.map λt=>match ad.underlying t with|some (.int k)=>some k|_=>none)))=true:=zw
theorem abM:((Rows.clerkKnownRow.pinned==Rows.clerkKnownRow.pinnedBy))=true:=zw
theorem aa5:((Rows.clerkKnownRow.veiled==(an.params.toList++Rows.clerkKnownSpec.plain.varTypes ad++an.resultTypes.toList).any (ad.veiledRec ·)))=true:=zw
theorem abE:(Rows.clerkKnownRow.veiledFits ad an.params.toList (an.params.toList++Rows.clerkKnownSpec.plain.varTypes ad++an.resultTypes.toList))=true:=zw
theorem jf:joinedFacts ad 3 an Rows.clerkKnownSpec Rows.clerkKnownRow=true:=
 ke (ke (ke (ke (ke (ke (ke (ke (ke (ke (ke (ke (ke (ke (ke (ke (ke (ke (ke (ke (ke (ke (ke (ke (ke (ke (ke (ke (ke (ke (ke jf0 jf1) jf2) jf3) jf4) jf5) jf6) jf7) jf8) jf9) abn) aa7) abN) abQ) aaW) abV) abF) abh) aa3) abu) abb) abO) aby) abc) abT) abK) aaV) abG) abe) abM) aa5) abE
theorem zH:Rows.ClerkKnownSaid:=
 bi 3 an rfl rfl rfl rfl rfl rfl rfl ⟨rfl,rfl,rfl,rfl,rfl⟩ rfl rfl rfl rfl rfl zw a7 jf
  (of_decide_eq_true zw) (by unfold Func.isWrapper;first|(rw[if_pos (by decide+kernel)];kernel_rfl)|(rw[if_neg (by decide+kernel)];exact⟨rfl,rfl⟩))
  (λos a H enc _=>vD os a H enc)
theorem cw:Rows.clerkKnownRow.wfByText (ap Rows.clerkKnownSpec)=true:=zw
theorem cm:ad.mainIs=some (true, "8afdabdb771f86ccabe57ca80cb2c9bf77c22c03cf129ad3ee02c906d67bd9bd".toList):=zw
theorem cl:true=ad.looks []:=zw
theorem cg:false=Rows.clerkKnownRow.goesBy ad:=zw
theorem cfn:ad.funcNamed "escribano/escribanolaw13.ClerkKnown" =some 3:=zw
theorem zm:Rows.ClerkKnownCardSaid:=
 Claim7.holds_tied_plain_at .later [] [.data,.data,.data,.data,.sentinel,.sentinel,.pinned] true (true, "8afdabdb771f86ccabe57ca80cb2c9bf77c22c03cf129ad3ee02c906d67bd9bd") true zH (λ_ h=>by cases h) cw (λ_ h=>by cases h) clerkKnown_row_tie rfl ⟨rfl,rfl⟩ cm rfl
  (λf fn c a=>by
    obtain rfl:f=3:=a6 (cfn.symm.trans c) |>.symm
    obtain rfl:fn=an:=(a6 (a7.symm.trans a)).symm
    exact⟨cl,λj t b=>by
     rw[bk]at b
     simp at b⟩)
  cg
#print axioms zm
end Go.Px
namespace Go.Proofs.YtjjmmbcmdheooaaGreatDoor
theorem clerkKnown_holds:Rows.ClerkKnownCardSaid:=Go.Px.zm
end Go.Proofs.YtjjmmbcmdheooaaGreatDoor
