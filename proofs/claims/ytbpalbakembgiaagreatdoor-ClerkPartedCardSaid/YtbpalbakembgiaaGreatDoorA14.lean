/- Part 14 of the proof of a statement of this seat (a logic of pure contracts; the functions; their contracts). No conditions. -/
import Derived.Test.YtbpalbakembgiaaGreatDoorA13
set_option linter.all false
open Go.ChangeSpec renaming witness_shaped->bl
open Go.Func renaming goes->bt
open Go.MakeChecks renaming laidMetH_plain->bm
open Go.OpenClaim renaming holds_of_wide->bn
open Go.OpenSpec renaming ofChange->ap
open Go.Program renaming goesAt->a8
open Go.Proofs.Tryz renaming prog->ad,f3->an,checked->a6,func3->bk,params3->bs
open List renaming any_eq_false->az
open Option.some renaming inj->a7
set_option maxRecDepth 100000
namespace Go.Px
open Go.Proofs Go.Proofs.YtbpalbakembgiaaGreatDoor
open Go.ChangeShapes Go.WideShapes Go.ChangeAt Go.RowKit
def zeroV:Value:=let N:Value:= .slice none 0 0;let Z:Value:= .int .i64 0;.agg #[Z,N,N,Z,N,N,Z,N,N,Z,Z,Z,N,N,N,N,N,N,Z,Z,N,Z,N,N,N,Z]
theorem wZ (os:Os)(b:os.Started)(H:Type)(ao:TypeId×Value->H):
  ReturnsInHanded {} a6 os 3 .any (λw args=>(Rows.clerkPartedSpec.pre ao ad an Rows.clerkPartedRow.domain false w args/\laidMetH ad Rows.clerkPartedRow.laid w)/\sizedMet ao ad an (ap Rows.clerkPartedSpec) false w args) (Rows.clerkPartedSpec.post ao ad an false true false false):=by
 refine LJ (C:=a6) own b aX bk
  (bl (C:=a6) (os:=os) (X:=λw _=>laidMetH ad Rows.clerkPartedRow.laid w) false (World.laidAll ad os Rows.clerkPartedRow.laid) #[zeroV,.slice none 0 0,.int .u8 0] 8 (World.laidAll_os _ _ _)
    (World.shaped_of_ZipB aX aX) aX aX aX
    (by rw[bm _ _ _ aX];exact laidMet_laidAll _ aX aX)) laid [.st aa5,qc,.int .u8] aX 4 aX aX zz ?_ (λW c d=>YC c d) ?_
 ·intro e hd;rw[bs]at hd;match e,hd with|[d1,d2,d3],_=>rfl
 ·intro xs h;simp only[Fe]at h;obtain⟨_,_,rfl,c,_,_,rfl,d,_,_,rfl,f,rfl⟩:=h;obtain⟨a,i,rfl⟩:=U0 c;obtain⟨l,hs,hl,rfl⟩:=RV d;obtain⟨n,g,rfl⟩:=YY f;exact Lz a i l hl hs n g
theorem lI {a b:Bool}(h:a=true)(g:b=true):(a&&b)=true:=by rw[h,g];rfl
theorem jf0:(Rows.clerkPartedRow.wf (ap Rows.clerkPartedSpec))=true:=aX
theorem jf1:(laidOutB ad)=true:=aX
theorem jf2:(mapsRowed ad)=true:=aX
theorem jf3:(an.params.all (ad.readableRec ·))=true:=aX
theorem jf4:(namedTie ad Rows.clerkPartedRow.named Rows.clerkPartedSpec.vars)=true:=aX
theorem jf5:((Rows.clerkPartedRow.stops==[]))=true:=aX
theorem jf6:((ad.stops==[]))=true:=aX
theorem jf7:((Rows.clerkPartedRow.knobs==[]))=true:=aX
theorem jf8:((ad.stopKnobs==[]))=true:=aX
theorem jf9:((Rows.clerkPartedRow.inPlace==ad.inPlace 3))=true:=aX
theorem af2:((Rows.clerkPartedRow.unfollowed==ad.unfollowed 3))=true:=aX
theorem afL:((Rows.clerkPartedRow.recurses==ad.recurses 3))=true:=aX
theorem agz:((Rows.clerkPartedRow.named==ad.varsNamed 3))=true:=aX
theorem agC:((Rows.clerkPartedRow.maps==(an.params.toList++Rows.clerkPartedSpec.plain.varTypes ad).any (ad.mapsRec ·)))=true:=aX
theorem afA:((Rows.clerkPartedRow.ifaces==(an.params.toList++Rows.clerkPartedSpec.plain.varTypes ad).any (ad.ifacesRec ·)))=true:=aX
theorem agH:((Rows.clerkPartedRow.mapsOut==ad.mapsAmong an.resultTypes.toList))=true:=aX
theorem ago:((Rows.clerkPartedRow.loops==(an.params.toList++Rows.clerkPartedSpec.plain.varTypes ad).any (ad.loopsFrom ·)))=true:=aX
theorem afU:((Rows.clerkPartedRow.wideKeys==(an.params.toList++Rows.clerkPartedSpec.plain.varTypes ad++an.resultTypes.toList).any (ad.wideKeysFrom ·)))=true:=aX
theorem afI:(Rows.clerkPartedSpec.vars.all (ad.varReadable ·))=true:=aX
theorem aga:(an.resultTypes.all (λt=>ad.readableRec t&&decide (t<ad.types.size)))=true:=aX
theorem afO:((Rows.clerkPartedRow.ifacesOut==an.resultTypes.toList.any (ad.ifacesRec ·)))=true:=aX
theorem agA:((Rows.clerkPartedRow.loopsOut==an.resultTypes.toList.any (ad.loopsFrom ·)))=true:=aX
theorem agf:((Rows.clerkPartedRow.plainKeys==ad.plainKeys))=true:=aX
theorem afP:(Rows.clerkPartedRow.shortTexts.isNone)=true:=aX
theorem agE:(ad.stopsHeard)=true:=aX
theorem agw:(ad.mayEnter)=true:=aX
theorem afz:((Rows.clerkPartedRow.lifted==ad.liftsFinal))=true:=aX
theorem agp:((ad.make==some Rows.clerkPartedRow.make))=true:=aX
theorem afR:((Rows.clerkPartedRow.kinds==(if Rows.clerkPartedRow.domain.isEmpty then[]else an.params.toList.map λt=>match ad.underlying t with|some (.int k)=>some k|_=>none)))=true:=aX
theorem agy:((Rows.clerkPartedRow.pinned==Rows.clerkPartedRow.pinnedBy))=true:=aX
theorem afJ:((Rows.clerkPartedRow.veiled==(an.params.toList++Rows.clerkPartedSpec.plain.varTypes ad++an.resultTypes.toList).any (ad.veiledRec ·)))=true:=aX
theorem agn:(Rows.clerkPartedRow.veiledFits ad an.params.toList (an.params.toList++Rows.clerkPartedSpec.plain.varTypes ad++an.resultTypes.toList))=true:=aX
theorem jf:joinedFacts ad 3 an Rows.clerkPartedSpec Rows.clerkPartedRow=true:=
 lI (lI (lI (lI (lI (lI (lI (lI (lI (lI (lI (lI (lI (lI (lI (lI (lI (lI (lI (lI (lI (lI (lI (lI (lI (lI (lI (lI (lI (lI (lI jf0 jf1) jf2) jf3) jf4) jf5) jf6) jf7) jf8) jf9) af2) afL) agz) agC) afA) agH) ago) afU) afI) aga) afO) agA) agf) afP) agE) agw) afz) agp) afR) agy) afJ) agn
theorem zw:Rows.ClerkPartedSaid:=
 bn 3 an zz zz zz zz zz zz zz ⟨zz,zz,zz,zz,zz⟩ zz zz zz zz zz aX bk jf
  (of_decide_eq_true aX) (by unfold Func.isWrapper;first|(rw[zy (by decide+kernel)];kernel_rfl)|(rw[zj (by decide+kernel)];exact gJ))
  (λos a H ao _=>wZ os a H ao)
open Go
theorem cw:Rows.clerkPartedRow.wfByText (ap Rows.clerkPartedSpec)=true:=aX
theorem cm:ad.mainIs=some (true, "6cd172bebe7a7fdc0a4bb7e61eaae714da86d1c24758408373cc91c2d0311597".toList):=aX
theorem cl:true=ad.looks []:=aX
theorem TS {P:Program}(h:P.funcs.any bt=false)(f:FuncId):P.goes f=false:=by
 unfold Program.goes;rw[h,Bool.and_false,Bool.or_false,az];intro g _;cases e:P.funcs[g]? with
 |none=>simp
 |some x=>rw[Array.any_eq_false]at h;obtain⟨a,b⟩:=Array.getElem?_eq_some_iff.1 e;have:=h g a;rw[b]at this;simpa using this
theorem cgA:ad.funcs.any bt=false:=aX
theorem cg:false=Rows.clerkPartedRow.goesBy ad:=by
 show false=a8 _ _ _;symm;unfold a8 Program.goesFrom;rw[Bool.or_eq_false_iff];refine⟨?_,?_⟩
 ·cases ad.funcNamed _ <;>simp [TS cgA]
 ·split;rfl;rw[az];intro f _;rw[TS cgA];decide
theorem cfn:ad.funcNamed "escribano/escribanolaw13.ClerkParted" =some 3:=aX
theorem zQ:Rows.ClerkPartedCardSaid:=
 Claim7.holds_tied_plain_at .later [] [.data,.data,.data,.data,.sentinel,.sentinel,.pinned] true (true, "6cd172bebe7a7fdc0a4bb7e61eaae714da86d1c24758408373cc91c2d0311597") true zw (λ_ h=>by cases h) cw (λ_ h=>by cases h) clerkParted_row_tie zz gJ cm zz
  (λf fn c b=>by
    obtain rfl:f=3:=a7 (cfn.symm.trans c) |>.symm
    obtain rfl:fn=an:=(a7 (bk.symm.trans b)).symm
    exact⟨cl,λj t a=>by
     rw[bs]at a
     have w1:ad.wantsStandIn 49=false:=aX
     have d:ad.wantsStandIn 25=false:=aX
     have w3:ad.wantsStandIn 5=false:=aX
     match j,a with
     |0,a=>cases a;exact w1
     |1,a=>cases a;exact d
     |2,a=>cases a;exact w3⟩)
  cg
#print axioms zQ
end Go.Px
namespace Go.Proofs.YtbpalbakembgiaaGreatDoor
theorem clerkParted_holds:Rows.ClerkPartedCardSaid:=Go.Px.zQ
end Go.Proofs.YtbpalbakembgiaaGreatDoor
