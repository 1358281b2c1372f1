/- Own texts, merged. -/
import Derived.Test.YtdhoadhkkecjjaaDoorS5
set_option linter.unusedVariables false
set_option linter.unusedSimpArgs false
open Nat (reduceAdd reduceSub reduceMul reduceEqDiff reduceLeDiff reduceLT)
namespace Go.Proofs.YtdhoadhkkecjjaaDoor.Cal
open Go
theorem zE0 : type_of% (And.intro @evOut.eq_1 <| And.intro @evOut.eq_2 <| And.intro @evStep.eq_1 <| And.intro @evCap.eq_1 <| And.intro @evCap.eq_2 <| And.intro @evMap.eq_1 <| And.intro @evMap.eq_2 <| And.intro @evMap.eq_3 <| And.intro @evMap.eq_4 <| And.intro @isIntS.eq_1 <| And.intro @gua.eq_1 <| And.intro @eq_self.{1} <| And.intro @evo.eq_1 <| And.intro @ev1.eq_1 <| And.intro @ev1.eq_2 <| And.intro @ev1.eq_3 <| And.intro @ev1.eq_4 <| And.intro @ev1.eq_5 <| And.intro @ev1.eq_6 <| And.intro @ev1.eq_7 <| And.intro @ev1.eq_8 <| And.intro @ev1.eq_9 <| And.intro @ev1.eq_10 <| And.intro @evx.eq_1 <| And.intro @evx.eq_2 <| And.intro @evx.eq_3 <| And.intro @evx.eq_4 <| And.intro @evx.eq_5 <| And.intro @evx.eq_6 <| And.intro @evx.eq_7 <| And.intro @evx.eq_8 <| And.intro @evx.eq_9 <| And.intro @evp.eq_1 <| And.intro @evp.eq_2 <| And.intro @evp.eq_3 <| And.intro @evp.eq_4 <| And.intro @evp.eq_5 <| And.intro @evp.eq_6 <| And.intro @evp.eq_7 <| And.intro @evp.eq_8 <| And.intro @evp.eq_9 <| And.intro @evp.eq_10 <| And.intro @evp.eq_11 <| And.intro @evp.eq_12 <| And.intro @evp.eq_13 <| And.intro @evp.eq_14 <| And.intro @evp.eq_15 <| And.intro @evp.eq_16 <| And.intro @ofP.eq_1 <| And.intro @ofP.eq_2 <| And.intro @guardOf.eq_1 <| And.intro @opv.eq_1 <| And.intro @opv.eq_2 <| And.intro @opv.eq_3 <| And.intro @opv.eq_4 <| And.intro @opv.eq_5 <| And.intro @opv.eq_6 <| And.intro @Zfc <| And.intro @lke_nil <| And.intro @Zbu <| And.intro @Zbb <| And.intro @isC.eq_1 <| And.intro @isC.eq_2 <| And.intro @isC.eq_3 <| And.intro @isC.eq_4 <| And.intro @isC.eq_5 <| And.intro @isC.eq_6 <| And.intro @isC.eq_7 <| And.intro @isC.eq_8 <| And.intro @isC.eq_9 <| And.intro @isC.eq_10 <| @isC.eq_11) := And.intro @evOut.eq_1 <| And.intro @evOut.eq_2 <| And.intro @evStep.eq_1 <| And.intro @evCap.eq_1 <| And.intro @evCap.eq_2 <| And.intro @evMap.eq_1 <| And.intro @evMap.eq_2 <| And.intro @evMap.eq_3 <| And.intro @evMap.eq_4 <| And.intro @isIntS.eq_1 <| And.intro @gua.eq_1 <| And.intro @eq_self.{1} <| And.intro @evo.eq_1 <| And.intro @ev1.eq_1 <| And.intro @ev1.eq_2 <| And.intro @ev1.eq_3 <| And.intro @ev1.eq_4 <| And.intro @ev1.eq_5 <| And.intro @ev1.eq_6 <| And.intro @ev1.eq_7 <| And.intro @ev1.eq_8 <| And.intro @ev1.eq_9 <| And.intro @ev1.eq_10 <| And.intro @evx.eq_1 <| And.intro @evx.eq_2 <| And.intro @evx.eq_3 <| And.intro @evx.eq_4 <| And.intro @evx.eq_5 <| And.intro @evx.eq_6 <| And.intro @evx.eq_7 <| And.intro @evx.eq_8 <| And.intro @evx.eq_9 <| And.intro @evp.eq_1 <| And.intro @evp.eq_2 <| And.intro @evp.eq_3 <| And.intro @evp.eq_4 <| And.intro @evp.eq_5 <| And.intro @evp.eq_6 <| And.intro @evp.eq_7 <| And.intro @evp.eq_8 <| And.intro @evp.eq_9 <| And.intro @evp.eq_10 <| And.intro @evp.eq_11 <| And.intro @evp.eq_12 <| And.intro @evp.eq_13 <| And.intro @evp.eq_14 <| And.intro @evp.eq_15 <| And.intro @evp.eq_16 <| And.intro @ofP.eq_1 <| And.intro @ofP.eq_2 <| And.intro @guardOf.eq_1 <| And.intro @opv.eq_1 <| And.intro @opv.eq_2 <| And.intro @opv.eq_3 <| And.intro @opv.eq_4 <| And.intro @opv.eq_5 <| And.intro @opv.eq_6 <| And.intro @Zfc <| And.intro @lke_nil <| And.intro @Zbu <| And.intro @Zbb <| And.intro @isC.eq_1 <| And.intro @isC.eq_2 <| And.intro @isC.eq_3 <| And.intro @isC.eq_4 <| And.intro @isC.eq_5 <| And.intro @isC.eq_6 <| And.intro @isC.eq_7 <| And.intro @isC.eq_8 <| And.intro @isC.eq_9 <| And.intro @isC.eq_10 <| @isC.eq_11
theorem zE1 : type_of% (And.intro @isC.eq_12 <| And.intro @isC.eq_13 <| And.intro @isC.eq_14 <| And.intro @isC.eq_15 <| And.intro @isC.eq_16 <| And.intro @isCC.eq_1 <| And.intro @isCC.eq_2 <| And.intro @isCL.eq_1 <| And.intro @isCL.eq_2 <| And.intro @isCL.eq_3 <| And.intro @men.eq_1 <| And.intro @men.eq_2 <| And.intro @men.eq_3 <| And.intro @men.eq_4 <| And.intro @men.eq_5 <| And.intro @men.eq_6 <| And.intro @men.eq_7 <| And.intro @men.eq_8 <| And.intro @men.eq_9 <| And.intro @putE.eq_1 <| And.intro @putE.eq_2 <| And.intro @setW.eq_1 <| And.intro @setW.eq_2 <| And.intro @setW.eq_3 <| And.intro @set1.eq_1 <| And.intro @set1.eq_2 <| And.intro @del.eq_1 <| And.intro @del.eq_2 <| And.intro @evLoad.eq_1 <| And.intro @evLoad.eq_2 <| And.intro @evLoad.eq_3 <| And.intro @evLoad.eq_4 <| And.intro @evField.eq_1 <| And.intro @evIndex.eq_1 <| And.intro @evIndex.eq_2 <| And.intro @evIndex.eq_3 <| And.intro @evIndex.eq_4 <| And.intro @evIndex.eq_5 <| And.intro @evIndex.eq_6 <| And.intro @evIndex.eq_7 <| And.intro @evIndex.eq_8 <| And.intro @evIndex.eq_9 <| And.intro @evBin.eq_1 <| And.intro @evBin.eq_2 <| And.intro @evBin.eq_3 <| And.intro @evBin.eq_4 <| And.intro @evBin.eq_5 <| And.intro @evBin.eq_6 <| And.intro @evBin.eq_7 <| And.intro @evBin.eq_8 <| And.intro @evBin.eq_9 <| And.intro @evBin.eq_10 <| And.intro @evBin.eq_11 <| And.intro @lenOf.eq_1 <| And.intro @lenOf.eq_2 <| And.intro @lenOf.eq_3 <| And.intro @lenOf.eq_4 <| And.intro @lenOf.eq_5 <| And.intro @lenOf.eq_6 <| And.intro @lenOf.eq_7 <| And.intro @evSlice.eq_1 <| And.intro @evSlice.eq_2 <| And.intro @evSlice.eq_3 <| And.intro @bnd.eq_1 <| And.intro @bnd.eq_2 <| And.intro @cutI.eq_1 <| And.intro @cutI.eq_2 <| And.intro @subv.eq_1 <| And.intro @selv.eq_1 <| And.intro @isV.eq_1 <| And.intro @isV.eq_2 <| @isV.eq_3) := And.intro @isC.eq_12 <| And.intro @isC.eq_13 <| And.intro @isC.eq_14 <| And.intro @isC.eq_15 <| And.intro @isC.eq_16 <| And.intro @isCC.eq_1 <| And.intro @isCC.eq_2 <| And.intro @isCL.eq_1 <| And.intro @isCL.eq_2 <| And.intro @isCL.eq_3 <| And.intro @men.eq_1 <| And.intro @men.eq_2 <| And.intro @men.eq_3 <| And.intro @men.eq_4 <| And.intro @men.eq_5 <| And.intro @men.eq_6 <| And.intro @men.eq_7 <| And.intro @men.eq_8 <| And.intro @men.eq_9 <| And.intro @putE.eq_1 <| And.intro @putE.eq_2 <| And.intro @setW.eq_1 <| And.intro @setW.eq_2 <| And.intro @setW.eq_3 <| And.intro @set1.eq_1 <| And.intro @set1.eq_2 <| And.intro @del.eq_1 <| And.intro @del.eq_2 <| And.intro @evLoad.eq_1 <| And.intro @evLoad.eq_2 <| And.intro @evLoad.eq_3 <| And.intro @evLoad.eq_4 <| And.intro @evField.eq_1 <| And.intro @evIndex.eq_1 <| And.intro @evIndex.eq_2 <| And.intro @evIndex.eq_3 <| And.intro @evIndex.eq_4 <| And.intro @evIndex.eq_5 <| And.intro @evIndex.eq_6 <| And.intro @evIndex.eq_7 <| And.intro @evIndex.eq_8 <| And.intro @evIndex.eq_9 <| And.intro @evBin.eq_1 <| And.intro @evBin.eq_2 <| And.intro @evBin.eq_3 <| And.intro @evBin.eq_4 <| And.intro @evBin.eq_5 <| And.intro @evBin.eq_6 <| And.intro @evBin.eq_7 <| And.intro @evBin.eq_8 <| And.intro @evBin.eq_9 <| And.intro @evBin.eq_10 <| And.intro @evBin.eq_11 <| And.intro @lenOf.eq_1 <| And.intro @lenOf.eq_2 <| And.intro @lenOf.eq_3 <| And.intro @lenOf.eq_4 <| And.intro @lenOf.eq_5 <| And.intro @lenOf.eq_6 <| And.intro @lenOf.eq_7 <| And.intro @evSlice.eq_1 <| And.intro @evSlice.eq_2 <| And.intro @evSlice.eq_3 <| And.intro @bnd.eq_1 <| And.intro @bnd.eq_2 <| And.intro @cutI.eq_1 <| And.intro @cutI.eq_2 <| And.intro @subv.eq_1 <| And.intro @selv.eq_1 <| And.intro @isV.eq_1 <| And.intro @isV.eq_2 <| @isV.eq_3
theorem zE2 : type_of% (And.intro @isV.eq_4 <| And.intro @isAg.eq_1 <| And.intro @isAg.eq_2 <| And.intro @cellsL.eq_1 <| And.intro @cellsL.eq_2 <| And.intro @lenL.eq_1 <| And.intro @lenL.eq_2 <| And.intro @properL.eq_1 <| And.intro @properL.eq_2 <| And.intro @properL.eq_3 <| And.intro @nthL.eq_1 <| And.intro @nthL.eq_2 <| And.intro @nthL.eq_3 <| And.intro @dropL.eq_1 <| And.intro @dropL.eq_2 <| And.intro @dropL.eq_3 <| And.intro @takeL.eq_1 <| And.intro @takeL.eq_2 <| And.intro @takeL.eq_3 <| And.intro @appL.eq_1 <| And.intro @appL.eq_2 <| And.intro @setL.eq_1 <| And.intro @setL.eq_2 <| And.intro @setL.eq_3 <| And.intro @updv.eq_1 <| And.intro @updv.eq_2 <| And.intro @TI.isStr.eq_1 <| And.intro @strip.eq_1 <| And.intro @strip.eq_2 <| And.intro @gd.eq_1 <| And.intro @gd.eq_2 <| And.intro @gds.eq_1 <| And.intro @gds.eq_2 <| And.intro @whnR.eq_1 <| And.intro @whnR.eq_2 <| And.intro @evPick.eq_1 <| And.intro @evStore.eq_1 <| And.intro @evStore.eq_2 <| And.intro @evStore.eq_3 <| And.intro @stBox.eq_1 <| And.intro @evApp.eq_1 <| And.intro @evApp.eq_2 <| And.intro @evApp.eq_3 <| And.intro @evAppS.eq_1 <| And.intro @evAppS.eq_2 <| And.intro @evAppS.eq_3 <| And.intro @evAppS.eq_4 <| And.intro @List.getD_cons_zero.{0} <| And.intro @srcI.eq_1 <| And.intro @srcI.eq_2 <| And.intro @srcI.eq_3 <| And.intro @srcB.eq_1 <| And.intro @srcB.eq_2 <| And.intro @srcB.eq_3 <| And.intro @srcR.eq_1 <| And.intro @srcR.eq_2 <| And.intro @srcR.eq_3 <| And.intro @evBuildS.eq_1 <| And.intro @evBuildS.eq_2 <| And.intro @evTake.eq_1 <| And.intro @evTake.eq_2 <| And.intro @makeB.eq_1 <| And.intro @makeB.eq_2 <| And.intro @isNilS.eq_1 <| And.intro @isNilS.eq_2 <| And.intro @partsOK.eq_1 <| And.intro @elemsOf.eq_1 <| And.intro @collI.eq_1 <| And.intro @collI.eq_2 <| And.intro @collI.eq_3 <| And.intro @collB.eq_1 <| @collB.eq_2) := And.intro @isV.eq_4 <| And.intro @isAg.eq_1 <| And.intro @isAg.eq_2 <| And.intro @cellsL.eq_1 <| And.intro @cellsL.eq_2 <| And.intro @lenL.eq_1 <| And.intro @lenL.eq_2 <| And.intro @properL.eq_1 <| And.intro @properL.eq_2 <| And.intro @properL.eq_3 <| And.intro @nthL.eq_1 <| And.intro @nthL.eq_2 <| And.intro @nthL.eq_3 <| And.intro @dropL.eq_1 <| And.intro @dropL.eq_2 <| And.intro @dropL.eq_3 <| And.intro @takeL.eq_1 <| And.intro @takeL.eq_2 <| And.intro @takeL.eq_3 <| And.intro @appL.eq_1 <| And.intro @appL.eq_2 <| And.intro @setL.eq_1 <| And.intro @setL.eq_2 <| And.intro @setL.eq_3 <| And.intro @updv.eq_1 <| And.intro @updv.eq_2 <| And.intro @TI.isStr.eq_1 <| And.intro @strip.eq_1 <| And.intro @strip.eq_2 <| And.intro @gd.eq_1 <| And.intro @gd.eq_2 <| And.intro @gds.eq_1 <| And.intro @gds.eq_2 <| And.intro @whnR.eq_1 <| And.intro @whnR.eq_2 <| And.intro @evPick.eq_1 <| And.intro @evStore.eq_1 <| And.intro @evStore.eq_2 <| And.intro @evStore.eq_3 <| And.intro @stBox.eq_1 <| And.intro @evApp.eq_1 <| And.intro @evApp.eq_2 <| And.intro @evApp.eq_3 <| And.intro @evAppS.eq_1 <| And.intro @evAppS.eq_2 <| And.intro @evAppS.eq_3 <| And.intro @evAppS.eq_4 <| And.intro @List.getD_cons_zero.{0} <| And.intro @srcI.eq_1 <| And.intro @srcI.eq_2 <| And.intro @srcI.eq_3 <| And.intro @srcB.eq_1 <| And.intro @srcB.eq_2 <| And.intro @srcB.eq_3 <| And.intro @srcR.eq_1 <| And.intro @srcR.eq_2 <| And.intro @srcR.eq_3 <| And.intro @evBuildS.eq_1 <| And.intro @evBuildS.eq_2 <| And.intro @evTake.eq_1 <| And.intro @evTake.eq_2 <| And.intro @makeB.eq_1 <| And.intro @makeB.eq_2 <| And.intro @isNilS.eq_1 <| And.intro @isNilS.eq_2 <| And.intro @partsOK.eq_1 <| And.intro @elemsOf.eq_1 <| And.intro @collI.eq_1 <| And.intro @collI.eq_2 <| And.intro @collI.eq_3 <| And.intro @collB.eq_1 <| @collB.eq_2
theorem zE3 : type_of% (And.intro @collB.eq_3 <| And.intro @collII.eq_1 <| And.intro @collII.eq_2 <| And.intro @collII.eq_3 <| And.intro @allC.eq_1 <| And.intro @allN.eq_1 <| And.intro @fillL.eq_1 <| And.intro @fillL.eq_2 <| And.intro @evCut.eq_1 <| And.intro @evFz.eq_1 <| And.intro @evFz.eq_2 <| And.intro @evFz.eq_3 <| And.intro @evFz.eq_4 <| And.intro @evFz.eq_5 <| And.intro @lko.eq_1 <| And.intro @lko.eq_2 <| And.intro @z0.{0} <| And.intro @renB.eq_1 <| And.intro @renB.eq_2 <| And.intro @renB.eq_3 <| And.intro @renB.eq_4 <| And.intro @renB.eq_5 <| And.intro @z1.{0} <| And.intro @z2.{0} <| And.intro @z3 <| And.intro @z4 <| And.intro @notD.eq_1 <| And.intro @notD.eq_2 <| And.intro @chkG.eq_1 <| And.intro @evCopy.eq_1 <| And.intro @evCall.eq_1 <| And.intro @ofSR.eq_1 <| And.intro @viewA.eq_1 <| And.intro @viewA.eq_2 <| And.intro @viewA.eq_3 <| And.intro @viewA.eq_4 <| And.intro @viewA.eq_5 <| And.intro @lsOf.eq_1 <| And.intro @lsOf.eq_2 <| And.intro @ofL.eq_1 <| And.intro @ofL.eq_2 <| And.intro @zfree.eq_1 <| And.intro @zfree.eq_2 <| And.intro @zfree.eq_3 <| And.intro @zfree.eq_4 <| And.intro @zfree.eq_5 <| And.intro @zfree.eq_6 <| And.intro @zfree.eq_7 <| And.intro @zfree.eq_8 <| And.intro @zfree.eq_9 <| And.intro @zfree.eq_10 <| And.intro @zfree.eq_11 <| And.intro @zfreeB.eq_1 <| And.intro @zfreeB.eq_2 <| And.intro @zfreeB.eq_3 <| And.intro @zfreeB.eq_4 <| And.intro @freeB.eq_1 <| And.intro @freeB.eq_2 <| And.intro @freeB.eq_3 <| And.intro @freeB.eq_4 <| And.intro @freeB.eq_5 <| And.intro @freeB.eq_6 <| And.intro @isOne.eq_1 <| And.intro @ren.eq_1 <| And.intro @ren.eq_2 <| And.intro @ren.eq_3 <| And.intro @ren.eq_4 <| And.intro @ren.eq_5 <| And.intro @ren.eq_6 <| And.intro @ren.eq_7 <| And.intro @ren.eq_8 <| @ren.eq_9) := And.intro @collB.eq_3 <| And.intro @collII.eq_1 <| And.intro @collII.eq_2 <| And.intro @collII.eq_3 <| And.intro @allC.eq_1 <| And.intro @allN.eq_1 <| And.intro @fillL.eq_1 <| And.intro @fillL.eq_2 <| And.intro @evCut.eq_1 <| And.intro @evFz.eq_1 <| And.intro @evFz.eq_2 <| And.intro @evFz.eq_3 <| And.intro @evFz.eq_4 <| And.intro @evFz.eq_5 <| And.intro @lko.eq_1 <| And.intro @lko.eq_2 <| And.intro @z0.{0} <| And.intro @renB.eq_1 <| And.intro @renB.eq_2 <| And.intro @renB.eq_3 <| And.intro @renB.eq_4 <| And.intro @renB.eq_5 <| And.intro @z1.{0} <| And.intro @z2.{0} <| And.intro @z3 <| And.intro @z4 <| And.intro @notD.eq_1 <| And.intro @notD.eq_2 <| And.intro @chkG.eq_1 <| And.intro @evCopy.eq_1 <| And.intro @evCall.eq_1 <| And.intro @ofSR.eq_1 <| And.intro @viewA.eq_1 <| And.intro @viewA.eq_2 <| And.intro @viewA.eq_3 <| And.intro @viewA.eq_4 <| And.intro @viewA.eq_5 <| And.intro @lsOf.eq_1 <| And.intro @lsOf.eq_2 <| And.intro @ofL.eq_1 <| And.intro @ofL.eq_2 <| And.intro @zfree.eq_1 <| And.intro @zfree.eq_2 <| And.intro @zfree.eq_3 <| And.intro @zfree.eq_4 <| And.intro @zfree.eq_5 <| And.intro @zfree.eq_6 <| And.intro @zfree.eq_7 <| And.intro @zfree.eq_8 <| And.intro @zfree.eq_9 <| And.intro @zfree.eq_10 <| And.intro @zfree.eq_11 <| And.intro @zfreeB.eq_1 <| And.intro @zfreeB.eq_2 <| And.intro @zfreeB.eq_3 <| And.intro @zfreeB.eq_4 <| And.intro @freeB.eq_1 <| And.intro @freeB.eq_2 <| And.intro @freeB.eq_3 <| And.intro @freeB.eq_4 <| And.intro @freeB.eq_5 <| And.intro @freeB.eq_6 <| And.intro @isOne.eq_1 <| And.intro @ren.eq_1 <| And.intro @ren.eq_2 <| And.intro @ren.eq_3 <| And.intro @ren.eq_4 <| And.intro @ren.eq_5 <| And.intro @ren.eq_6 <| And.intro @ren.eq_7 <| And.intro @ren.eq_8 <| @ren.eq_9
theorem zE4 : type_of% (And.intro @zipE.eq_1 <| And.intro @zipE.eq_2 <| And.intro @Go.Op.operands.eq_1 <| And.intro @Go.Op.operands.eq_2 <| And.intro @Go.Op.operands.eq_3 <| And.intro @Go.Op.operands.eq_4 <| And.intro @Go.Op.operands.eq_5 <| And.intro @Go.Op.operands.eq_6 <| And.intro @Go.Op.operands.eq_7 <| And.intro @Go.Op.operands.eq_8 <| And.intro @Go.Op.operands.eq_9 <| And.intro @Go.Op.operands.eq_10 <| And.intro @Go.Op.operands.eq_11 <| And.intro @Go.Op.operands.eq_12 <| And.intro @Go.Op.operands.eq_13 <| And.intro @Go.Op.operands.eq_14 <| And.intro @Go.Op.operands.eq_15 <| And.intro @Go.Op.operands.eq_16 <| And.intro @Go.Op.operands.eq_17 <| And.intro @Go.Op.operands.eq_18 <| And.intro @Go.Op.operands.eq_19 <| And.intro @Go.Op.operands.eq_20 <| And.intro @Go.Op.operands.eq_21 <| And.intro @Go.Op.operands.eq_22 <| And.intro @Go.Op.operands.eq_23 <| And.intro @Go.Op.operands.eq_24 <| And.intro @Go.Op.operands.eq_25 <| And.intro @Go.Op.operands.eq_26 <| And.intro @Go.Op.operands.eq_27 <| And.intro @Go.Op.operands.eq_28 <| And.intro @Go.Op.operands.eq_29 <| And.intro @Go.Op.operands.eq_30 <| And.intro @Go.Op.operands.eq_31 <| And.intro @Go.Op.operands.eq_32 <| And.intro @Go.Op.operands.eq_33 <| And.intro @Go.Op.operands.eq_34 <| And.intro @Go.Op.operands.eq_35 <| And.intro @Go.Op.operands.eq_36 <| And.intro @Go.Op.operands.eq_37 <| And.intro @Go.Op.operands.eq_38 <| And.intro @Go.Op.operands.eq_39 <| And.intro @Go.Op.operands.eq_40 <| And.intro @Go.Op.operands.eq_41 <| And.intro @Go.Op.operands.eq_42 <| And.intro @Go.Op.operands.eq_43 <| And.intro @Go.Call.operands.eq_1 <| And.intro @nbeq <| And.intro @nble <| And.intro @nblt <| And.intro @z5 <| And.intro @z6 <| And.intro @z7 <| And.intro @z8 <| And.intro @z9 <| And.intro @z10 <| And.intro @z11 <| And.intro @z12 <| And.intro @z13 <| And.intro @z14 <| And.intro @z15 <| And.intro @z16 <| And.intro @z17 <| And.intro @z18 <| And.intro @z19.{0} <| And.intro @z20.{0} <| And.intro @z21.{0} <| And.intro @z22.{0, 0} <| And.intro @z23.{0, 0} <| And.intro @z24.{0} <| And.intro @z25.{0} <| And.intro @z26.{0, 0} <| @z27.{0, 0}) := And.intro @zipE.eq_1 <| And.intro @zipE.eq_2 <| And.intro @Go.Op.operands.eq_1 <| And.intro @Go.Op.operands.eq_2 <| And.intro @Go.Op.operands.eq_3 <| And.intro @Go.Op.operands.eq_4 <| And.intro @Go.Op.operands.eq_5 <| And.intro @Go.Op.operands.eq_6 <| And.intro @Go.Op.operands.eq_7 <| And.intro @Go.Op.operands.eq_8 <| And.intro @Go.Op.operands.eq_9 <| And.intro @Go.Op.operands.eq_10 <| And.intro @Go.Op.operands.eq_11 <| And.intro @Go.Op.operands.eq_12 <| And.intro @Go.Op.operands.eq_13 <| And.intro @Go.Op.operands.eq_14 <| And.intro @Go.Op.operands.eq_15 <| And.intro @Go.Op.operands.eq_16 <| And.intro @Go.Op.operands.eq_17 <| And.intro @Go.Op.operands.eq_18 <| And.intro @Go.Op.operands.eq_19 <| And.intro @Go.Op.operands.eq_20 <| And.intro @Go.Op.operands.eq_21 <| And.intro @Go.Op.operands.eq_22 <| And.intro @Go.Op.operands.eq_23 <| And.intro @Go.Op.operands.eq_24 <| And.intro @Go.Op.operands.eq_25 <| And.intro @Go.Op.operands.eq_26 <| And.intro @Go.Op.operands.eq_27 <| And.intro @Go.Op.operands.eq_28 <| And.intro @Go.Op.operands.eq_29 <| And.intro @Go.Op.operands.eq_30 <| And.intro @Go.Op.operands.eq_31 <| And.intro @Go.Op.operands.eq_32 <| And.intro @Go.Op.operands.eq_33 <| And.intro @Go.Op.operands.eq_34 <| And.intro @Go.Op.operands.eq_35 <| And.intro @Go.Op.operands.eq_36 <| And.intro @Go.Op.operands.eq_37 <| And.intro @Go.Op.operands.eq_38 <| And.intro @Go.Op.operands.eq_39 <| And.intro @Go.Op.operands.eq_40 <| And.intro @Go.Op.operands.eq_41 <| And.intro @Go.Op.operands.eq_42 <| And.intro @Go.Op.operands.eq_43 <| And.intro @Go.Call.operands.eq_1 <| And.intro @nbeq <| And.intro @nble <| And.intro @nblt <| And.intro @z5 <| And.intro @z6 <| And.intro @z7 <| And.intro @z8 <| And.intro @z9 <| And.intro @z10 <| And.intro @z11 <| And.intro @z12 <| And.intro @z13 <| And.intro @z14 <| And.intro @z15 <| And.intro @z16 <| And.intro @z17 <| And.intro @z18 <| And.intro @z19.{0} <| And.intro @z20.{0} <| And.intro @z21.{0} <| And.intro @z22.{0, 0} <| And.intro @z23.{0, 0} <| And.intro @z24.{0} <| And.intro @z25.{0} <| And.intro @z26.{0, 0} <| @z27.{0, 0}
theorem zE5 : type_of% (And.intro @z28.{0} <| And.intro @z29.{0} <| And.intro @z30.{0} <| And.intro @z31.{0} <| And.intro @z32.{0} <| And.intro @z33.{0} <| And.intro @z34.{0} <| And.intro @z35.{0} <| And.intro @z36 <| And.intro @z37 <| And.intro @imp_self <| And.intro @EO.mk.injEq <| And.intro @z39 <| And.intro @z40 <| And.intro @z41.{0} <| And.intro @z42.{0} <| And.intro @z43 <| And.intro @z44 <| And.intro @z45 <| And.intro @z46 <| And.intro @z47 <| And.intro @z48 <| And.intro @z49 <| And.intro @z50 <| And.intro @ne_eq.{1} <| And.intro @z51 <| And.intro @z52 <| And.intro @z53 <| And.intro @z54 <| And.intro @z55 <| And.intro @z56.{0} <| And.intro @z57.{0} <| And.intro @inI.eq_1 <| And.intro @evRes.eq_1 <| And.intro @evRes.eq_2 <| And.intro @evRes.eq_3 <| And.intro @resV.eq_1 <| And.intro @resV.eq_2 <| And.intro @mkL.eq_1 <| And.intro @mkL.eq_2 <| And.intro @ltK.eq_1 <| And.intro @rhoL.eq_1 <| And.intro @rhoL.eq_2 <| And.intro @leE.eq_1 <| And.intro @leE.eq_2 <| And.intro @leR.eq_1 <| And.intro @leR.eq_2 <| And.intro @leR.eq_3 <| And.intro @menB.eq_1 <| And.intro @menB.eq_2 <| And.intro @menB.eq_3 <| And.intro @menB.eq_4 <| And.intro @menB.eq_5 <| And.intro @menE.eq_1 <| And.intro @menE.eq_2 <| And.intro @fzA.eq_1 <| And.intro @fzA.eq_2 <| And.intro @fzA.eq_3 <| And.intro @fzA.eq_4 <| And.intro @fzA.eq_5 <| And.intro @fzA.eq_6 <| And.intro @fzA.eq_7 <| And.intro @fzE.eq_1 <| And.intro @fzE.eq_2 <| And.intro @fzB.eq_1 <| And.intro @fzB.eq_2 <| And.intro @fzR.eq_1 <| And.intro @fzR.eq_2 <| @fzR.eq_3) := And.intro @z28.{0} <| And.intro @z29.{0} <| And.intro @z30.{0} <| And.intro @z31.{0} <| And.intro @z32.{0} <| And.intro @z33.{0} <| And.intro @z34.{0} <| And.intro @z35.{0} <| And.intro @z36 <| And.intro @z37 <| And.intro @imp_self <| And.intro @EO.mk.injEq <| And.intro @z39 <| And.intro @z40 <| And.intro @z41.{0} <| And.intro @z42.{0} <| And.intro @z43 <| And.intro @z44 <| And.intro @z45 <| And.intro @z46 <| And.intro @z47 <| And.intro @z48 <| And.intro @z49 <| And.intro @z50 <| And.intro @ne_eq.{1} <| And.intro @z51 <| And.intro @z52 <| And.intro @z53 <| And.intro @z54 <| And.intro @z55 <| And.intro @z56.{0} <| And.intro @z57.{0} <| And.intro @inI.eq_1 <| And.intro @evRes.eq_1 <| And.intro @evRes.eq_2 <| And.intro @evRes.eq_3 <| And.intro @resV.eq_1 <| And.intro @resV.eq_2 <| And.intro @mkL.eq_1 <| And.intro @mkL.eq_2 <| And.intro @ltK.eq_1 <| And.intro @rhoL.eq_1 <| And.intro @rhoL.eq_2 <| And.intro @leE.eq_1 <| And.intro @leE.eq_2 <| And.intro @leR.eq_1 <| And.intro @leR.eq_2 <| And.intro @leR.eq_3 <| And.intro @menB.eq_1 <| And.intro @menB.eq_2 <| And.intro @menB.eq_3 <| And.intro @menB.eq_4 <| And.intro @menB.eq_5 <| And.intro @menE.eq_1 <| And.intro @menE.eq_2 <| And.intro @fzA.eq_1 <| And.intro @fzA.eq_2 <| And.intro @fzA.eq_3 <| And.intro @fzA.eq_4 <| And.intro @fzA.eq_5 <| And.intro @fzA.eq_6 <| And.intro @fzA.eq_7 <| And.intro @fzE.eq_1 <| And.intro @fzE.eq_2 <| And.intro @fzB.eq_1 <| And.intro @fzB.eq_2 <| And.intro @fzR.eq_1 <| And.intro @fzR.eq_2 <| @fzR.eq_3
def fF : Nat → Bool := fun _ => false
theorem fF_eq {i : Nat} : fF i = false := rfl
theorem zE : type_of% (And.intro @zE0 <| And.intro @zE1 <| And.intro @zE2 <| And.intro @zE3 <| And.intro @zE4 <| And.intro @zE5 @fF_eq) := And.intro @zE0 <| And.intro @zE1 <| And.intro @zE2 <| And.intro @zE3 <| And.intro @zE4 <| And.intro @zE5 @fF_eq
theorem zI : type_of% (And.intro @AV.int.injEq <| And.intro @AV.bool.injEq <| And.intro @AV.roI.injEq <| And.intro @AV.roB.injEq <| And.intro @AV.roII.injEq <| And.intro @AV.rop.injEq <| And.intro @AV.agg.injEq <| And.intro @AV.tup.injEq <| And.intro @AV.cons.injEq <| And.intro @AV.own.injEq <| And.intro @AV.whn.injEq <| And.intro @Blk.ints.injEq <| And.intro @Blk.bools.injEq <| And.intro @Blk.rows.injEq <| And.intro @Blk.rowsR.injEq <| And.intro @Blk.box.injEq <| And.intro @Option.some.injEq.{0} <| And.intro @Int.natCast_add <| And.intro @Int.natCast_one <| @Int.cast_ofNat_Int) := And.intro @AV.int.injEq <| And.intro @AV.bool.injEq <| And.intro @AV.roI.injEq <| And.intro @AV.roB.injEq <| And.intro @AV.roII.injEq <| And.intro @AV.rop.injEq <| And.intro @AV.agg.injEq <| And.intro @AV.tup.injEq <| And.intro @AV.cons.injEq <| And.intro @AV.own.injEq <| And.intro @AV.whn.injEq <| And.intro @Blk.ints.injEq <| And.intro @Blk.bools.injEq <| And.intro @Blk.rows.injEq <| And.intro @Blk.rowsR.injEq <| And.intro @Blk.box.injEq <| And.intro @Option.some.injEq.{0} <| And.intro @Int.natCast_add <| And.intro @Int.natCast_one <| @Int.cast_ofNat_Int
theorem zH : type_of% (And.intro @Bool.and_eq_false_iff <| And.intro @decide_eq_true_eq <| And.intro @decide_eq_false_iff_not <| And.intro @Bool.or_eq_true <| And.intro @Bool.or_eq_false_iff <| And.intro @Bool.and_eq_true <| And.intro @Bool.not_eq_true' <| And.intro @Bool.not_eq_false' <| And.intro @not_or <| And.intro @Int.not_lt <| @Int.not_le) := And.intro @Bool.and_eq_false_iff <| And.intro @decide_eq_true_eq <| And.intro @decide_eq_false_iff_not <| And.intro @Bool.or_eq_true <| And.intro @Bool.or_eq_false_iff <| And.intro @Bool.and_eq_true <| And.intro @Bool.not_eq_true' <| And.intro @Bool.not_eq_false' <| And.intro @not_or <| And.intro @Int.not_lt <| @Int.not_le
open Go
structure Gm where
  own : List Int
  pri : List Int
  nxt : List (List Int)
def gmA (g : Gm) : AV := .agg (.cons (.roI g.own) (.cons (.roI g.pri) (.cons (.roII g.nxt) .nil)))
theorem noSp : SpOK Tryd.prog (fun _ => none) := fun f S h => by cases h
open Go
def tot (x : List (List Int)) (i : Nat) : Int := ((x.take i).map fun l => (l.length : Int)).sum
def few (n m : Int) (g : Gm) : Bool := !(decide (n < (g.own.length : Int)) || decide (n < (g.pri.length : Int)) || decide (n < (g.nxt.length : Int))) && decide (tot g.nxt g.nxt.length ≤ m)
def fewS : Spec
  | [.int .i64 n, .int .i64 m, .agg (.cons (.roI o) (.cons (.roI p) (.cons (.roII x) .nil)))] => some ⟨n ≤ 1000, .bool (few n m ⟨o, p, x⟩), none⟩
  | _ => none
theorem tot_succ {x : List (List Int)} {i : Nat} (h : i < x.length) : tot x (i + 1) = tot x i + (x.getD i []).length := by
  unfold tot
  rw [List.take_add_one, List.getElem?_eq_getElem h]
  rw [List.map_append, List.sum_append]
  simp [List.getD_eq_getElem?_getD, List.getElem?_eq_getElem h]
theorem tot_le {x : List (List Int)} (hx : ∀ j, j < x.length → (x.getD j []).length ≤ lim) : ∀ i, i ≤ x.length → 0 ≤ tot x i ∧ tot x i ≤ i * (lim : Int) := by
  intro i
  induction i with
  | zero => intro _; simp [tot]
  | succ i ih =>
    intro hi
    have := ih (by omega)
    have h2 := hx i (by omega)
    rw [tot_succ (by omega)]
    push_cast
    rw [Int.add_mul]
    omega
set_option maxRecDepth 4000 in
set_option maxHeartbeats 4000000 in
theorem few_ok : Zb2 Tryd.prog 26 fewS := by
  refine Za8 htb (fn := Tryd.f26) (by kernel_rfl) (by kernel_rfl) rfl (fun args r hS => ?_) (fun args r hS hob hl => ?_)
  · unfold fewS at hS; split at hS <;> first | (cases hS; done) | (cases hS; exact Nat.le_of_ble_eq_true rfl)
  unfold fewS at hS
  split at hS
  case h_2 => cases hS
  rename_i n m o p x
  simp only [Option.some.injEq] at hS
  subst hS
  simp only [lenP, mkL, lim] at hl
  dsimp only at hob
  repeat' first
    | with_reducible first | apply Zar | apply Zan | apply Zaa | apply Zac | apply Zah | apply Zap | apply Zag | apply Zaj | apply Zaq | apply Zas | apply Zao | apply Zal | apply Zab | apply Zak
    | ((with_reducible refine Zai ?_ ?_); exact rfl) | ((with_reducible refine Zat ?_); refine Zam rfl ?_ ?_ <;> intro hb <;> (try simp only [zH] at hb)) | ((with_reducible refine Zaz ?_); (first | refine Zaf htb hmz noSp fF rfl rfl ?_ | refine Zae hmo htb hmz noSp fF rfl rfl (by kernel_rfl) ?_); intro _ _ _ _ h; simp only [zE, evp, evx, ev1, evLoad, evStore, evBin, evIf, Zad, forall_const, z38, tb, reduceAdd, reduceSub, reduceMul, reduceEqDiff, reduceLeDiff, reduceLT, Nat.reduceBEq, Nat.reduceBNe, ↓reduceIte, reduceIte] at h; obtain ⟨rfl, rfl, rfl, rfl⟩ := h; refine ⟨?_, ?_⟩) | ((with_reducible refine Ob.mk ?_); first | exact trivial | (intros; omega) | ((repeat' first | apply And.intro | (intro a; have b := a; try simp only [zH] at b)) <;> first | assumption | omega | (simp only [zH]; omega)))
  · refine Zax rfl rfl (Zaw rfl ?_ rfl)
    show AV.bool false = AV.bool _
    simp [few]; omega
  · obtain ⟨_, _, ⟨_, _, ⟨hx, hxx⟩, _⟩, _⟩ := hl
    refine Za5 (τ := Nat) (fun i => i ≤ x.length) (fun i => ⟨22, [(32, .int .i64 i), (7, .int .i64 (tot x i)), (30, .roII x), (31, .int .i64 x.length), (0, .int .i64 n), (1, .int .i64 m), (5, .rop (.agg (.cons (.roI o) (.cons (.roI p) (.cons (.roII x) .nil)))))], [], []⟩) (fun i => x.length - i) 0 [] ⟨rfl, by simp [zE, evp, evx, ev1, evLoad, evStore, evBin, evIf, Zad, forall_const, z38, tb, reduceAdd, reduceSub, reduceMul, reduceEqDiff, reduceLeDiff, reduceLT, Nat.reduceBEq, Nat.reduceBNe, ↓reduceIte, reduceIte, tot], by simp only [zE, evp, evx, ev1, evLoad, evStore, evBin, evIf, Zad, forall_const, z38, tb, reduceAdd, reduceSub, reduceMul, reduceEqDiff, reduceLeDiff, reduceLT, Nat.reduceBEq, Nat.reduceBNe, ↓reduceIte, reduceIte]⟩ (by omega) ?_
    intro i hi
    have ht := tot_le hxx i hi
    simp only [lim] at ht
    repeat' first
      | with_reducible first | apply Zar | apply Zan | apply Zaa | apply Zac | apply Zah | apply Zap | apply Zag | apply Zaj | apply Zaq | apply Zas | apply Zao | apply Zal | apply Zab | apply Zak
      | ((with_reducible refine Zai ?_ ?_); exact rfl) | ((with_reducible refine Zat ?_); refine Zam rfl ?_ ?_ <;> intro hb <;> (try simp only [zH] at hb)) | ((with_reducible refine Zaz ?_); (first | refine Zaf htb hmz noSp fF rfl rfl ?_ | refine Zae hmo htb hmz noSp fF rfl rfl (by kernel_rfl) ?_); intro _ _ _ _ h; simp only [zE, evp, evx, ev1, evLoad, evStore, evBin, evIf, Zad, forall_const, z38, tb, reduceAdd, reduceSub, reduceMul, reduceEqDiff, reduceLeDiff, reduceLT, Nat.reduceBEq, Nat.reduceBNe, ↓reduceIte, reduceIte] at h; obtain ⟨rfl, rfl, rfl, rfl⟩ := h; refine ⟨?_, ?_⟩) | ((with_reducible refine Ob.mk ?_); first | exact trivial | (intros; omega) | ((repeat' first | apply And.intro | (intro a; have b := a; try simp only [zH] at b)) <;> first | assumption | omega | (simp only [zH]; omega)))
    · have h1 := hxx i (by omega)
      constructor <;> omega
    · refine back (i + 1) [] ?_ (by omega) (by omega)
      (refine ⟨rfl, ?_, ?_⟩ <;> simp only [zE, evp, evx, ev1, evLoad, evStore, evBin, evIf, Zad, forall_const, z38, tb, reduceAdd, reduceSub, reduceMul, reduceEqDiff, reduceLeDiff, reduceLT, Nat.reduceBEq, Nat.reduceBNe, ↓reduceIte, reduceIte, zI])
      rw [tot_succ (by omega)]
    · refine Zax rfl rfl (Zaw rfl ?_ rfl)
      show AV.bool (decide (tot x i ≤ m)) = AV.bool _
      have : i = x.length := by omega
      subst this
      simp [few]; omega
def Zdu : Spec
  | [.roI a, .roI b] => some ⟨True, .bool (decide (a = b)), none⟩
  | _ => none
theorem ext0 {a b : List Int} (h1 : a.length = b.length) (h2 : ∀ j, j < a.length → a.getD j 0 = b.getD j 0) : a = b := by
  refine List.ext_getElem h1 fun j hj hj' => ?_
  have := h2 j hj
  simpa [List.getD_eq_getElem?_getD, hj, hj'] using this
set_option maxRecDepth 4000 in
set_option maxHeartbeats 4000000 in
theorem list_ok : Zb2 Tryd.prog 34 Zdu := by
  refine Za8 htb (fn := Tryd.f34) (by kernel_rfl) (by kernel_rfl) rfl (fun args r hS => ?_) (fun args r hS hob hl => ?_)
  · unfold Zdu at hS; split at hS <;> first | (cases hS; done) | (cases hS; exact Nat.le_of_ble_eq_true rfl)
  unfold Zdu at hS
  split at hS
  case h_2 => cases hS
  rename_i a b
  simp only [Option.some.injEq] at hS
  subst hS
  simp only [lenP, mkL, lim] at hl
  dsimp only at hob
  repeat' first
    | with_reducible first | apply Zar | apply Zan | apply Zaa | apply Zac | apply Zah | apply Zap | apply Zag | apply Zaj | apply Zaq | apply Zas | apply Zao | apply Zal | apply Zab | apply Zak
    | ((with_reducible refine Zai ?_ ?_); exact rfl) | ((with_reducible refine Zat ?_); refine Zam rfl ?_ ?_ <;> intro hb <;> (try simp only [zH] at hb)) | ((with_reducible refine Zaz ?_); (first | refine Zaf htb hmz noSp fF rfl rfl ?_ | refine Zae hmo htb hmz noSp fF rfl rfl (by kernel_rfl) ?_); intro _ _ _ _ h; simp only [zE, evp, evx, ev1, evLoad, evStore, evBin, evIf, Zad, forall_const, z38, tb, reduceAdd, reduceSub, reduceMul, reduceEqDiff, reduceLeDiff, reduceLT, Nat.reduceBEq, Nat.reduceBNe, ↓reduceIte, reduceIte] at h; obtain ⟨rfl, rfl, rfl, rfl⟩ := h; refine ⟨?_, ?_⟩) | ((with_reducible refine Ob.mk ?_); first | exact trivial | (intros; omega) | ((repeat' first | apply And.intro | (intro a; have b := a; try simp only [zH] at b)) <;> first | assumption | omega | (simp only [zH]; omega)))
  · refine Zax rfl rfl (Zaw rfl ?_ rfl)
    show AV.bool false = AV.bool (decide (a = b))
    rw [decide_eq_false (by rintro rfl; exact hb rfl)]
  · have hlen : a.length = b.length := by omega
    refine Za5 (τ := Nat) (fun i => i ≤ a.length ∧ ∀ j, j < i → a.getD j 0 = b.getD j 0) (fun i => ⟨9, [(13, .int .i64 i), (12, .int .i64 a.length), (0, .roI a), (1, .roI b)], [], []⟩) (fun i => a.length - i) 0 [] ⟨rfl, by simp [zE, evp, evx, ev1, evLoad, evStore, evBin, evIf, Zad, forall_const, z38, tb, reduceAdd, reduceSub, reduceMul, reduceEqDiff, reduceLeDiff, reduceLT, Nat.reduceBEq, Nat.reduceBNe, ↓reduceIte, reduceIte], by simp only [zE, evp, evx, ev1, evLoad, evStore, evBin, evIf, Zad, forall_const, z38, tb, reduceAdd, reduceSub, reduceMul, reduceEqDiff, reduceLeDiff, reduceLT, Nat.reduceBEq, Nat.reduceBNe, ↓reduceIte, reduceIte]⟩ ⟨by omega, by omega⟩ ?_
    rintro i ⟨hi, hj⟩
    repeat' first
      | with_reducible first | apply Zar | apply Zan | apply Zaa | apply Zac | apply Zah | apply Zap | apply Zag | apply Zaj | apply Zaq | apply Zas | apply Zao | apply Zal | apply Zab | apply Zak
      | ((with_reducible refine Zai ?_ ?_); exact rfl) | ((with_reducible refine Zat ?_); refine Zam rfl ?_ ?_ <;> intro hb <;> (try simp only [zH] at hb)) | ((with_reducible refine Zaz ?_); (first | refine Zaf htb hmz noSp fF rfl rfl ?_ | refine Zae hmo htb hmz noSp fF rfl rfl (by kernel_rfl) ?_); intro _ _ _ _ h; simp only [zE, evp, evx, ev1, evLoad, evStore, evBin, evIf, Zad, forall_const, z38, tb, reduceAdd, reduceSub, reduceMul, reduceEqDiff, reduceLeDiff, reduceLT, Nat.reduceBEq, Nat.reduceBNe, ↓reduceIte, reduceIte] at h; obtain ⟨rfl, rfl, rfl, rfl⟩ := h; refine ⟨?_, ?_⟩) | ((with_reducible refine Ob.mk ?_); first | exact trivial | (intros; omega) | ((repeat' first | apply And.intro | (intro a; have b := a; try simp only [zH] at b)) <;> first | assumption | omega | (simp only [zH]; omega)))
    · refine Zax rfl rfl (Zaw rfl ?_ rfl)
      show AV.bool false = AV.bool (decide (a = b))
      rw [decide_eq_false (by rintro rfl; exact hb rfl)]
    · refine back (i + 1) [] ?_ ⟨by omega, fun j hj' => ?_⟩ (by omega)
      · (refine ⟨rfl, ?_, ?_⟩ <;> simp only [zE, evp, evx, ev1, evLoad, evStore, evBin, evIf, Zad, forall_const, z38, tb, reduceAdd, reduceSub, reduceMul, reduceEqDiff, reduceLeDiff, reduceLT, Nat.reduceBEq, Nat.reduceBNe, ↓reduceIte, reduceIte, zI])
      · rcases Nat.lt_succ_iff_lt_or_eq.1 hj' with h | rfl
        · exact hj j h
        · exact hb
    · refine Zax rfl rfl (Zaw rfl ?_ rfl)
      show AV.bool true = AV.bool (decide (a = b))
      rw [decide_eq_true (ext0 hlen fun j hj' => hj j (by omega))]
open Go
def idxI (a : List Int) (v : Int) : Int := if v ∈ a then (a.idxOf v : Int) else -1
def Zhu : Spec
  | [.roI a, .int .i64 v] => some ⟨True, .int .i64 (idxI a v), none⟩
  | _ => none
def Zav : Spec
  | [.roI a, .int .i64 v] => some ⟨True, .bool (decide (v ∈ a)), none⟩
  | _ => none
theorem not_mem_of {a : List Int} {v : Int} (h : ∀ j, j < a.length → ¬ v = a.getD j 0) : v ∉ a := fun hm => by
  obtain ⟨j, hj, e⟩ := List.getElem_of_mem hm
  exact h j hj (by simp [List.getD_eq_getElem?_getD, hj, e])
theorem Zhf {a : List Int} {j : Nat} (h : j < a.length) : a.getD j 0 ∈ a := by simp [List.getD_eq_getElem?_getD, h]
theorem idxOf_first {v : Int} : ∀ {a : List Int} {i : Nat}, i < a.length → v = a.getD i 0 → (∀ j, j < i → ¬ v = a.getD j 0) → a.idxOf v = i := by
  intro a
  induction a with
  | nil => intro i hi; simp at hi
  | cons x t ih =>
    intro i hi hv h
    cases i with
    | zero =>
      have : v = x := by simpa using hv
      subst this; simp
    | succ i =>
      have hne : x ≠ v := fun e => h 0 (by omega) (by simp [e])
      rw [List.idxOf_cons, show (x == v) = false from by simp [hne], cond_false, ih (by simpa using hi) (by simpa using hv) (fun j hj => by have := h (j + 1) (by omega); simpa using this)]
set_option maxRecDepth 4000 in
set_option maxHeartbeats 4000000 in
theorem index_ok : Zb2 Tryd.prog 57 Zhu := by
  refine Za8 htb (fn := Tryd.f57) (by kernel_rfl) (by kernel_rfl) rfl (fun args r hS => ?_) (fun args r hS hob hl => ?_)
  · unfold Zhu at hS; split at hS <;> first | (cases hS; done) | (cases hS; exact Nat.le_of_ble_eq_true rfl)
  unfold Zhu at hS
  split at hS
  case h_2 => cases hS
  rename_i a v
  simp only [Option.some.injEq] at hS
  subst hS
  simp only [lenP, mkL, lim] at hl
  dsimp only at hob
  repeat' first
    | with_reducible first | apply Zar | apply Zan | apply Zaa | apply Zac | apply Zah | apply Zap | apply Zag | apply Zaj | apply Zaq | apply Zas | apply Zao | apply Zal | apply Zab | apply Zak
    | ((with_reducible refine Zai ?_ ?_); exact rfl) | ((with_reducible refine Zat ?_); refine Zam rfl ?_ ?_ <;> intro hb <;> (try simp only [zH] at hb)) | ((with_reducible refine Zaz ?_); (first | refine Zaf htb hmz noSp fF rfl rfl ?_ | refine Zae hmo htb hmz noSp fF rfl rfl (by kernel_rfl) ?_); intro _ _ _ _ h; simp only [zE, evp, evx, ev1, evLoad, evStore, evBin, evIf, Zad, forall_const, z38, tb, reduceAdd, reduceSub, reduceMul, reduceEqDiff, reduceLeDiff, reduceLT, Nat.reduceBEq, Nat.reduceBNe, ↓reduceIte, reduceIte] at h; obtain ⟨rfl, rfl, rfl, rfl⟩ := h; refine ⟨?_, ?_⟩) | ((with_reducible refine Ob.mk ?_); first | exact trivial | (intros; omega) | ((repeat' first | apply And.intro | (intro a; have b := a; try simp only [zH] at b)) <;> first | assumption | omega | (simp only [zH]; omega)))
  refine Za5 (τ := Nat) (fun i => i ≤ a.length ∧ ∀ j, j < i → ¬ v = a.getD j 0) (fun i => ⟨4, [(8, .int .i64 i), (7, .int .i64 a.length), (0, .roI a), (1, .int .i64 v)], [], []⟩) (fun i => a.length - i) 0 [] ⟨rfl, by simp [zE, evp, evx, ev1, evLoad, evStore, evBin, evIf, Zad, forall_const, z38, tb, reduceAdd, reduceSub, reduceMul, reduceEqDiff, reduceLeDiff, reduceLT, Nat.reduceBEq, Nat.reduceBNe, ↓reduceIte, reduceIte], by simp only [zE, evp, evx, ev1, evLoad, evStore, evBin, evIf, Zad, forall_const, z38, tb, reduceAdd, reduceSub, reduceMul, reduceEqDiff, reduceLeDiff, reduceLT, Nat.reduceBEq, Nat.reduceBNe, ↓reduceIte, reduceIte]⟩ ⟨by omega, by omega⟩ ?_
  rintro i ⟨hi, hj⟩
  repeat' first
    | with_reducible first | apply Zar | apply Zan | apply Zaa | apply Zac | apply Zah | apply Zap | apply Zag | apply Zaj | apply Zaq | apply Zas | apply Zao | apply Zal | apply Zab | apply Zak
    | ((with_reducible refine Zai ?_ ?_); exact rfl) | ((with_reducible refine Zat ?_); refine Zam rfl ?_ ?_ <;> intro hb <;> (try simp only [zH] at hb)) | ((with_reducible refine Zaz ?_); (first | refine Zaf htb hmz noSp fF rfl rfl ?_ | refine Zae hmo htb hmz noSp fF rfl rfl (by kernel_rfl) ?_); intro _ _ _ _ h; simp only [zE, evp, evx, ev1, evLoad, evStore, evBin, evIf, Zad, forall_const, z38, tb, reduceAdd, reduceSub, reduceMul, reduceEqDiff, reduceLeDiff, reduceLT, Nat.reduceBEq, Nat.reduceBNe, ↓reduceIte, reduceIte] at h; obtain ⟨rfl, rfl, rfl, rfl⟩ := h; refine ⟨?_, ?_⟩) | ((with_reducible refine Ob.mk ?_); first | exact trivial | (intros; omega) | ((repeat' first | apply And.intro | (intro a; have b := a; try simp only [zH] at b)) <;> first | assumption | omega | (simp only [zH]; omega)))
  · refine Zax rfl rfl (Zaw rfl ?_ rfl)
    show AV.int .i64 i = AV.int .i64 (idxI a v)
    rw [idxI, if_pos (hb ▸ Zhf (by omega)), idxOf_first (by omega) hb hj]
  · refine back (i + 1) [] ?_ ⟨by omega, fun j hj' => ?_⟩ (by omega)
    · (refine ⟨rfl, ?_, ?_⟩ <;> simp only [zE, evp, evx, ev1, evLoad, evStore, evBin, evIf, Zad, forall_const, z38, tb, reduceAdd, reduceSub, reduceMul, reduceEqDiff, reduceLeDiff, reduceLT, Nat.reduceBEq, Nat.reduceBNe, ↓reduceIte, reduceIte, zI])
    · rcases Nat.lt_succ_iff_lt_or_eq.1 hj' with h | rfl
      · exact hj j h
      · exact hb
  · refine Zax rfl rfl (Zaw rfl ?_ rfl)
    show AV.int .i64 (-1) = AV.int .i64 (idxI a v)
    rw [idxI, if_neg (not_mem_of fun j hj' => hj j (by omega))]
def Zjc : Nat → Option Spec
  | 57 => some Zhu
  | _ => none
theorem spIdx_ok : SpOK Tryd.prog Zjc := by
  intro f S h
  unfold Zjc at h
  split at h
  · cases h; exact index_ok
  · cases h
set_option maxRecDepth 4000 in
set_option maxHeartbeats 4000000 in
theorem Zdk : Zb2 Tryd.prog 41 Zav := by
  refine Za8 htb (fn := Tryd.f41) (by kernel_rfl) (by kernel_rfl) rfl (fun args r hS => ?_) (fun args r hS hob hl => ?_)
  · unfold Zav at hS; split at hS <;> first | (cases hS; done) | (cases hS; exact Nat.le_of_ble_eq_true rfl)
  unfold Zav at hS
  split at hS
  case h_2 => cases hS
  rename_i a v
  simp only [Option.some.injEq] at hS
  subst hS
  simp only [lenP, mkL, lim] at hl
  dsimp only at hob
  repeat' first
    | with_reducible first | apply Zar | apply Zan | apply Zaa | apply Zac | apply Zah | apply Zap | apply Zag | apply Zaj | apply Zaq | apply Zas | apply Zao | apply Zal | apply Zab | apply Zak
    | ((with_reducible refine Zai ?_ ?_); exact rfl) | ((with_reducible refine Zat ?_); refine Zam rfl ?_ ?_ <;> intro hb <;> (try simp only [zH] at hb)) | ((with_reducible refine Zaz ?_); (first | refine Zaf htb hmz spIdx_ok fF rfl rfl ?_ | refine Zae hmo htb hmz spIdx_ok fF rfl rfl (by kernel_rfl) ?_); intro _ _ _ _ h; simp only [zE, evp, evx, ev1, evLoad, evStore, evBin, evIf, Zad, forall_const, z38, tb, reduceAdd, reduceSub, reduceMul, reduceEqDiff, reduceLeDiff, reduceLT, Nat.reduceBEq, Nat.reduceBNe, ↓reduceIte, reduceIte, Zjc, Zhu] at h; obtain ⟨rfl, rfl, rfl, rfl⟩ := h; refine ⟨?_, ?_⟩) | ((with_reducible refine Ob.mk ?_); first | exact trivial | (intros; omega) | ((repeat' first | apply And.intro | (intro a; have b := a; try simp only [zH] at b)) <;> first | assumption | omega | (simp only [zH]; omega)))
  · refine Zax rfl rfl (Zaw rfl ?_ rfl)
    show AV.bool (decide (0 ≤ idxI a v)) = AV.bool (decide (v ∈ a))
    by_cases hm : v ∈ a
    · rw [idxI, if_pos hm]; simp [hm]
    · rw [idxI, if_neg hm]; simp [hm]
def Zc4 : Spec
  | [.roI a] => some ⟨a.length ≤ 1000000000, .roI a, none⟩
  | _ => none
set_option maxRecDepth 4000 in
set_option maxHeartbeats 4000000 in
theorem clone_ok : Zb2 Tryd.prog 58 Zc4 := by
  refine Za8 htb (fn := Tryd.f58) (by kernel_rfl) (by kernel_rfl) rfl (fun args r hS => ?_) (fun args r hS hob hl => ?_)
  · unfold Zc4 at hS; split at hS <;> first | (cases hS; done) | (cases hS; exact Nat.le_of_ble_eq_true rfl)
  unfold Zc4 at hS
  split at hS
  case h_2 => cases hS
  rename_i a
  simp only [Option.some.injEq] at hS
  subst hS
  simp only [lenP, mkL, lim] at hl
  dsimp only at hob
  refine Zar ?_
  first | (refine Zaf htb hmz noSp fF rfl rfl ?_; intro _ _ _ _ h; simp only [zE, evp, evx, ev1, evLoad, evStore, evBin, evIf, Zad, forall_const, z38, tb, reduceAdd, reduceSub, reduceMul, reduceEqDiff, reduceLeDiff, reduceLT, Nat.reduceBEq, Nat.reduceBNe, ↓reduceIte, reduceIte] at h; obtain ⟨rfl, rfl, rfl, rfl⟩ := h; refine ⟨?_, ?_⟩)
        | (refine Zae hmo htb hmz noSp fF rfl rfl (by kernel_rfl) ?_; intro _ _ _ _ h; simp only [zE, evp, evx, ev1, evLoad, evStore, evBin, evIf, Zad, forall_const, z38, tb, reduceAdd, reduceSub, reduceMul, reduceEqDiff, reduceLeDiff, reduceLT, Nat.reduceBEq, Nat.reduceBNe, ↓reduceIte, reduceIte] at h; obtain ⟨rfl, rfl, rfl, rfl⟩ := h; refine ⟨?_, ?_⟩)
  · trivial
  refine Zaa (Zar (awp_nilq (xs := a) (by kernel_rfl : Tryd.prog.underlying 22 = some (.slice 3)) rfl rfl rfl rfl rfl ?_ ?_))
  · rintro rfl
    refine Zar ?_
    first | (refine Zaf htb hmz noSp fF rfl rfl ?_; intro _ _ _ _ h; simp only [zE, evp, evx, ev1, evLoad, evStore, evBin, evIf, Zad, forall_const, z38, tb, reduceAdd, reduceSub, reduceMul, reduceEqDiff, reduceLeDiff, reduceLT, Nat.reduceBEq, Nat.reduceBNe, ↓reduceIte, reduceIte] at h; obtain ⟨rfl, rfl, rfl, rfl⟩ := h; refine ⟨?_, ?_⟩)
          | (refine Zae hmo htb hmz noSp fF rfl rfl (by kernel_rfl) ?_; intro _ _ _ _ h; simp only [zE, evp, evx, ev1, evLoad, evStore, evBin, evIf, Zad, forall_const, z38, tb, reduceAdd, reduceSub, reduceMul, reduceEqDiff, reduceLeDiff, reduceLT, Nat.reduceBEq, Nat.reduceBNe, ↓reduceIte, reduceIte] at h; obtain ⟨rfl, rfl, rfl, rfl⟩ := h; refine ⟨?_, ?_⟩)
    · trivial
    refine Zaa (awp_see 2 (.roI []) rfl (fun Z w ν y h => see_nil h) ?_)
    repeat' first
      | with_reducible first | apply Zar | apply Zan | apply Zaa | apply Zac | apply Zah | apply Zap | apply Zag | apply Zaj | apply Zaq | apply Zas | apply Zao | apply Zal | apply Zab | apply Zak
      | ((with_reducible refine Zai ?_ ?_); exact rfl) | ((with_reducible refine Zat ?_); refine Zam rfl ?_ ?_ <;> intro hb <;> (try simp only [zH] at hb)) | ((with_reducible refine Zaz ?_); (first | refine Zaf htb hmz noSp fF rfl rfl ?_ | refine Zae hmo htb hmz noSp fF rfl rfl (by kernel_rfl) ?_); intro _ _ _ _ h; simp only [zE, evp, evx, ev1, evLoad, evStore, evBin, evIf, Zad, forall_const, z38, tb, reduceAdd, reduceSub, reduceMul, reduceEqDiff, reduceLeDiff, reduceLT, Nat.reduceBEq, Nat.reduceBNe, ↓reduceIte, reduceIte] at h; obtain ⟨rfl, rfl, rfl, rfl⟩ := h; refine ⟨?_, ?_⟩) | ((with_reducible refine Ob.mk ?_); first | exact trivial | (intros; omega) | ((repeat' first | apply And.intro | (intro a; have b := a; try simp only [zH] at b)) <;> first | assumption | omega | (simp only [zH]; omega)))
    refine Zax rfl rfl (Zaw rfl ?_ rfl)
    rfl
  · refine Zao (Zaa (Zar ?_))
    (refine Zaf htb hmz noSp (fun i => Nat.beq i 0) rfl rfl ?_; intro _ _ _ _ h; simp only [zE, evp, evx, ev1, evLoad, evStore, evBin, evIf, Zad, forall_const, z38, tb, reduceAdd, reduceSub, reduceMul, reduceEqDiff, reduceLeDiff, reduceLT, Nat.reduceBEq, Nat.reduceBNe, ↓reduceIte, reduceIte] at h; obtain ⟨rfl, rfl, rfl, rfl⟩ := h; refine ⟨?_, ?_⟩)
    · refine Ob.mk ?_; omega
    refine Zaa ?_
    refine Zei 3 (.roI a) (by simp only [Zbb, Zbu, fzE, fzA, fzR, fzB, set1, nbeq, reduceEqDiff, decide_true, decide_false, ↓reduceIte, reduceIte, cond_true, cond_false, List.take_length, Option.some.injEq]; rfl) (by first | exact rfl | (refine ⟨?_, rfl⟩; first | rfl | (intros; rfl))) (by simp only [Zbb, Zbu, fzE, fzA, fzR, fzB, set1, nbeq, reduceEqDiff, decide_true, decide_false, ↓reduceIte, reduceIte, cond_true, cond_false, List.take_length, Option.some.injEq]; rfl) (by simp only [Zbb, Zbu, fzE, fzA, fzR, fzB, set1, nbeq, reduceEqDiff, decide_true, decide_false, ↓reduceIte, reduceIte, cond_true, cond_false, List.take_length, Option.some.injEq]; rfl) ?_
    repeat' first
      | with_reducible first | apply Zar | apply Zan | apply Zaa | apply Zac | apply Zah | apply Zap | apply Zag | apply Zaj | apply Zaq | apply Zas | apply Zao | apply Zal | apply Zab | apply Zak
      | ((with_reducible refine Zai ?_ ?_); exact rfl) | ((with_reducible refine Zat ?_); refine Zam rfl ?_ ?_ <;> intro hb <;> (try simp only [zH] at hb)) | ((with_reducible refine Zaz ?_); (first | refine Zaf htb hmz noSp fF rfl rfl ?_ | refine Zae hmo htb hmz noSp fF rfl rfl (by kernel_rfl) ?_); intro _ _ _ _ h; simp only [zE, evp, evx, ev1, evLoad, evStore, evBin, evIf, Zad, forall_const, z38, tb, reduceAdd, reduceSub, reduceMul, reduceEqDiff, reduceLeDiff, reduceLT, Nat.reduceBEq, Nat.reduceBNe, ↓reduceIte, reduceIte] at h; obtain ⟨rfl, rfl, rfl, rfl⟩ := h; refine ⟨?_, ?_⟩) | ((with_reducible refine Ob.mk ?_); first | exact trivial | (intros; omega) | ((repeat' first | apply And.intro | (intro a; have b := a; try simp only [zH] at b)) <;> first | assumption | omega | (simp only [zH]; omega)))
    refine Zax rfl rfl (Zaw rfl ?_ rfl)
    rfl
def hasS : Spec
  | [.roI a, .int .i64 v] => some ⟨True, .bool (decide (v ∈ a)), none⟩
  | _ => none
set_option maxRecDepth 4000 in
set_option maxHeartbeats 4000000 in
theorem Zhe : Zb2 Tryd.prog 31 hasS := by
  refine Za8 htb (fn := Tryd.f31) (by kernel_rfl) (by kernel_rfl) rfl (fun args r hS => ?_) (fun args r hS hob hl => ?_)
  · unfold hasS at hS; split at hS <;> first | (cases hS; done) | (cases hS; exact Nat.le_of_ble_eq_true rfl)
  unfold hasS at hS
  split at hS
  case h_2 => cases hS
  rename_i a v
  simp only [Option.some.injEq] at hS
  subst hS
  simp only [lenP, mkL, lim] at hl
  dsimp only at hob
  repeat' first
    | with_reducible first | apply Zar | apply Zan | apply Zaa | apply Zac | apply Zah | apply Zap | apply Zag | apply Zaj | apply Zaq | apply Zas | apply Zao | apply Zal | apply Zab | apply Zak
    | ((with_reducible refine Zai ?_ ?_); exact rfl) | ((with_reducible refine Zat ?_); refine Zam rfl ?_ ?_ <;> intro hb <;> (try simp only [zH] at hb)) | ((with_reducible refine Zaz ?_); (first | refine Zaf htb hmz noSp fF rfl rfl ?_ | refine Zae hmo htb hmz noSp fF rfl rfl (by kernel_rfl) ?_); intro _ _ _ _ h; simp only [zE, evp, evx, ev1, evLoad, evStore, evBin, evIf, Zad, forall_const, z38, tb, reduceAdd, reduceSub, reduceMul, reduceEqDiff, reduceLeDiff, reduceLT, Nat.reduceBEq, Nat.reduceBNe, ↓reduceIte, reduceIte] at h; obtain ⟨rfl, rfl, rfl, rfl⟩ := h; refine ⟨?_, ?_⟩) | ((with_reducible refine Ob.mk ?_); first | exact trivial | (intros; omega) | ((repeat' first | apply And.intro | (intro a; have b := a; try simp only [zH] at b)) <;> first | assumption | omega | (simp only [zH]; omega)))
  refine Za5 (τ := Nat) (fun i => i ≤ a.length ∧ ∀ j, j < i → ¬ v = a.getD j 0) (fun i => ⟨4, [(9, .int .i64 i), (8, .int .i64 a.length), (7, .roI a), (0, .roI a), (1, .int .i64 v)], [], []⟩) (fun i => a.length - i) 0 [] ⟨rfl, by simp [zE, evp, evx, ev1, evLoad, evStore, evBin, evIf, Zad, forall_const, z38, tb, reduceAdd, reduceSub, reduceMul, reduceEqDiff, reduceLeDiff, reduceLT, Nat.reduceBEq, Nat.reduceBNe, ↓reduceIte, reduceIte], by simp only [zE, evp, evx, ev1, evLoad, evStore, evBin, evIf, Zad, forall_const, z38, tb, reduceAdd, reduceSub, reduceMul, reduceEqDiff, reduceLeDiff, reduceLT, Nat.reduceBEq, Nat.reduceBNe, ↓reduceIte, reduceIte]⟩ ⟨by omega, by omega⟩ ?_
  rintro i ⟨hi, hj⟩
  repeat' first
    | with_reducible first | apply Zar | apply Zan | apply Zaa | apply Zac | apply Zah | apply Zap | apply Zag | apply Zaj | apply Zaq | apply Zas | apply Zao | apply Zal | apply Zab | apply Zak
    | ((with_reducible refine Zai ?_ ?_); exact rfl) | ((with_reducible refine Zat ?_); refine Zam rfl ?_ ?_ <;> intro hb <;> (try simp only [zH] at hb)) | ((with_reducible refine Zaz ?_); (first | refine Zaf htb hmz noSp fF rfl rfl ?_ | refine Zae hmo htb hmz noSp fF rfl rfl (by kernel_rfl) ?_); intro _ _ _ _ h; simp only [zE, evp, evx, ev1, evLoad, evStore, evBin, evIf, Zad, forall_const, z38, tb, reduceAdd, reduceSub, reduceMul, reduceEqDiff, reduceLeDiff, reduceLT, Nat.reduceBEq, Nat.reduceBNe, ↓reduceIte, reduceIte] at h; obtain ⟨rfl, rfl, rfl, rfl⟩ := h; refine ⟨?_, ?_⟩) | ((with_reducible refine Ob.mk ?_); first | exact trivial | (intros; omega) | ((repeat' first | apply And.intro | (intro a; have b := a; try simp only [zH] at b)) <;> first | assumption | omega | (simp only [zH]; omega)))
  · refine Zax rfl rfl (Zaw rfl ?_ rfl)
    show AV.bool true = AV.bool (decide (v ∈ a))
    rw [decide_eq_true (hb ▸ Zhf (by omega))]
  · refine back (i + 1) [] ?_ ⟨by omega, fun j hj' => ?_⟩ (by omega)
    · (refine ⟨rfl, ?_, ?_⟩ <;> simp only [zE, evp, evx, ev1, evLoad, evStore, evBin, evIf, Zad, forall_const, z38, tb, reduceAdd, reduceSub, reduceMul, reduceEqDiff, reduceLeDiff, reduceLT, Nat.reduceBEq, Nat.reduceBNe, ↓reduceIte, reduceIte, zI])
    · rcases Nat.lt_succ_iff_lt_or_eq.1 hj' with h | rfl
      · exact hj j h
      · exact fun e => hb e.symm
  · refine Zax rfl rfl (Zaw rfl ?_ rfl)
    show AV.bool false = AV.bool (decide (v ∈ a))
    rw [decide_eq_false (not_mem_of fun j hj' => hj j (by omega))]
open Go
def Gm.n (g : Gm) : Nat := g.own.length
def Gm.o (g : Gm) (v : Nat) : Int := g.own.getD v 0
def Gm.p (g : Gm) (v : Nat) : Int := g.pri.getD v 0
def Gm.x (g : Gm) (v : Nat) : List Int := g.nxt.getD v []
def Zjd (n : Nat) (l : List Int) (i : Nat) : Prop := 0 ≤ l.getD i 0 ∧ l.getD i 0 < n ∧ (0 < i → l.getD (i - 1) 0 < l.getD i 0)
def Zje (g : Gm) (v : Nat) : Prop := (0 ≤ g.o v ∧ g.o v ≤ 1 ∧ 0 ≤ g.p v ∧ g.p v ≤ 60 ∧ 1 ≤ (g.x v).length ∧ (g.x v).length ≤ 64) ∧ ∀ i, i < (g.x v).length → Zjd g.n (g.x v) i
def Zhz (g : Gm) : Prop := g.n ≤ 20000 ∧ g.pri.length = g.n ∧ g.nxt.length = g.n ∧ ∀ v, v < g.n → Zje g v
open Classical in
noncomputable def Zba (g : Gm) : Bool := decide (Zhz g)
noncomputable def Zay : Spec
  | [.agg (.cons (.roI o) (.cons (.roI p) (.cons (.roII x) .nil)))] => some ⟨True, .bool (Zba ⟨o, p, x⟩), none⟩
  | _ => none
theorem Zdz {g : Gm} (h : Zhz g) : Zba g = true := by simp [Zba, h]
theorem Zcx {g : Gm} (h : ¬ Zhz g) : Zba g = false := by simp [Zba, h]
theorem validB_iff {g : Gm} : Zba g = true ↔ Zhz g := by simp [Zba]
set_option maxRecDepth 4000 in
set_option maxHeartbeats 4000000 in
theorem Zfw : Zb2 Tryd.prog 44 Zay := by
  refine Za8 htb (fn := Tryd.f44) (by kernel_rfl) (by kernel_rfl) rfl (fun args r hS => ?_) (fun args r hS hob hl => ?_)
  · unfold Zay at hS; split at hS <;> first | (cases hS; done) | (cases hS; exact Nat.le_of_ble_eq_true rfl)
  unfold Zay at hS
  split at hS
  case h_2 => cases hS
  rename_i o p x
  simp only [Option.some.injEq] at hS
  subst hS
  simp only [lenP, mkL, lim] at hl
  dsimp only at hob
  repeat' first
    | with_reducible first | apply Zar | apply Zan | apply Zaa | apply Zac | apply Zah | apply Zap | apply Zag | apply Zaj | apply Zaq | apply Zas | apply Zao | apply Zal | apply Zab | apply Zak
    | ((with_reducible refine Zai ?_ ?_); exact rfl) | ((with_reducible refine Zat ?_); refine Zam rfl ?_ ?_ <;> intro hb <;> (try simp only [zH] at hb)) | ((with_reducible refine Zaz ?_); (first | refine Zaf htb hmz noSp fF rfl rfl ?_ | refine Zae hmo htb hmz noSp fF rfl rfl (by kernel_rfl) ?_); intro _ _ _ _ h; simp only [zE, evp, evx, ev1, evLoad, evStore, evBin, evIf, Zad, forall_const, z38, tb, reduceAdd, reduceSub, reduceMul, reduceEqDiff, reduceLeDiff, reduceLT, Nat.reduceBEq, Nat.reduceBNe, ↓reduceIte, reduceIte] at h; obtain ⟨rfl, rfl, rfl, rfl⟩ := h; refine ⟨?_, ?_⟩) | ((with_reducible refine Ob.mk ?_); first | exact trivial | (intros; omega) | ((repeat' first | apply And.intro | (intro a; have b := a; try simp only [zH] at b)) <;> first | assumption | omega | (simp only [zH]; omega)))
  · refine Zax rfl rfl (Zaw rfl ?_ rfl)
    show AV.bool false = AV.bool _
    rw [Zcx]
    rintro ⟨h1, h2, h3, _⟩
    simp only [Gm.n] at h1 h2 h3
    omega
  · have ho : o.length ≤ 20000 := by omega
    have hp : p.length = o.length := by omega
    have hx : x.length = o.length := by omega
    clear hb
    refine Za5 (τ := Nat) (fun i => i ≤ o.length ∧ ∀ v, v < i → Zje ⟨o, p, x⟩ v) (fun i => ⟨24, [(27, .int .i64 i), (26, .int .i64 o.length), (3, .int .i64 o.length), (1, .rop (.agg (.cons (.roI o) (.cons (.roI p) (.cons (.roII x) .nil)))))], [], []⟩) (fun i => o.length - i) 0 [] ⟨rfl, by simp [zE, evp, evx, ev1, evLoad, evStore, evBin, evIf, Zad, forall_const, z38, tb, reduceAdd, reduceSub, reduceMul, reduceEqDiff, reduceLeDiff, reduceLT, Nat.reduceBEq, Nat.reduceBNe, ↓reduceIte, reduceIte], by simp only [zE, evp, evx, ev1, evLoad, evStore, evBin, evIf, Zad, forall_const, z38, tb, reduceAdd, reduceSub, reduceMul, reduceEqDiff, reduceLeDiff, reduceLT, Nat.reduceBEq, Nat.reduceBNe, ↓reduceIte, reduceIte]⟩ ⟨by omega, by omega⟩ ?_
    rintro v ⟨hv, hj⟩
    repeat' first
      | with_reducible first | apply Zar | apply Zan | apply Zaa | apply Zac | apply Zah | apply Zap | apply Zag | apply Zaj | apply Zaq | apply Zas | apply Zao | apply Zal | apply Zab | apply Zak
      | ((with_reducible refine Zai ?_ ?_); exact rfl) | ((with_reducible refine Zat ?_); refine Zam rfl ?_ ?_ <;> intro hb <;> (try simp only [zH] at hb)) | ((with_reducible refine Zaz ?_); (first | refine Zaf htb hmz noSp fF rfl rfl ?_ | refine Zae hmo htb hmz noSp fF rfl rfl (by kernel_rfl) ?_); intro _ _ _ _ h; simp only [zE, evp, evx, ev1, evLoad, evStore, evBin, evIf, Zad, forall_const, z38, tb, reduceAdd, reduceSub, reduceMul, reduceEqDiff, reduceLeDiff, reduceLT, Nat.reduceBEq, Nat.reduceBNe, ↓reduceIte, reduceIte] at h; obtain ⟨rfl, rfl, rfl, rfl⟩ := h; refine ⟨?_, ?_⟩) | ((with_reducible refine Ob.mk ?_); first | exact trivial | (intros; omega) | ((repeat' first | apply And.intro | (intro a; have b := a; try simp only [zH] at b)) <;> first | assumption | omega | (simp only [zH]; omega)))
    · refine Zax rfl rfl (Zaw rfl ?_ rfl)
      show AV.bool false = AV.bool _
      rw [Zcx]
      rintro ⟨_, _, _, h4⟩
      obtain ⟨⟨a1, a2, a3, a4, a5, a6⟩, _⟩ := h4 v (by simp only [Gm.n]; omega)
      simp only [Gm.o, Gm.p, Gm.x] at a1 a2 a3 a4 a5 a6
      omega
    · rename_i hb1 hb2
      refine Za5 (τ := Nat) (fun i => i ≤ (x.getD v []).length ∧ ∀ k, k < i → Zjd o.length (x.getD v []) k) (fun i => ⟨82, [(84, .int .i64 i), (83, .int .i64 (x.getD v []).length), (82, .roI (x.getD v [])), (4, .int .i64 v), (27, .int .i64 v), (26, .int .i64 o.length), (3, .int .i64 o.length), (1, .rop (.agg (.cons (.roI o) (.cons (.roI p) (.cons (.roII x) .nil)))))], [], []⟩) (fun i => (x.getD v []).length - i) 0 [] ⟨rfl, by simp [zE, evp, evx, ev1, evLoad, evStore, evBin, evIf, Zad, forall_const, z38, tb, reduceAdd, reduceSub, reduceMul, reduceEqDiff, reduceLeDiff, reduceLT, Nat.reduceBEq, Nat.reduceBNe, ↓reduceIte, reduceIte], by simp only [zE, evp, evx, ev1, evLoad, evStore, evBin, evIf, Zad, forall_const, z38, tb, reduceAdd, reduceSub, reduceMul, reduceEqDiff, reduceLeDiff, reduceLT, Nat.reduceBEq, Nat.reduceBNe, ↓reduceIte, reduceIte]⟩ ⟨by omega, by omega⟩ ?_
      rintro i ⟨hi, hk⟩
      repeat' first
        | with_reducible first | apply Zar | apply Zan | apply Zaa | apply Zac | apply Zah | apply Zap | apply Zag | apply Zaj | apply Zaq | apply Zas | apply Zao | apply Zal | apply Zab | apply Zak
        | ((with_reducible refine Zai ?_ ?_); exact rfl) | ((with_reducible refine Zat ?_); refine Zam rfl ?_ ?_ <;> intro hb <;> (try simp only [zH] at hb)) | ((with_reducible refine Zaz ?_); (first | refine Zaf htb hmz noSp fF rfl rfl ?_ | refine Zae hmo htb hmz noSp fF rfl rfl (by kernel_rfl) ?_); intro _ _ _ _ h; simp only [zE, evp, evx, ev1, evLoad, evStore, evBin, evIf, Zad, forall_const, z38, tb, reduceAdd, reduceSub, reduceMul, reduceEqDiff, reduceLeDiff, reduceLT, Nat.reduceBEq, Nat.reduceBNe, ↓reduceIte, reduceIte] at h; obtain ⟨rfl, rfl, rfl, rfl⟩ := h; refine ⟨?_, ?_⟩) | ((with_reducible refine Ob.mk ?_); first | exact trivial | (intros; omega) | ((repeat' first | apply And.intro | (intro a; have b := a; try simp only [zH] at b)) <;> first | assumption | omega | (simp only [zH]; omega)))
      · refine Zax rfl rfl (Zaw rfl ?_ rfl)
        show AV.bool false = AV.bool _
        rw [Zcx]
        rintro ⟨_, _, _, h4⟩
        obtain ⟨_, h5⟩ := h4 v (by simp only [Gm.n]; omega)
        obtain ⟨a1, a2, a3⟩ := h5 i (by simp only [Gm.x]; omega)
        simp only [Gm.x, Gm.n] at a1 a2 a3
        rcases hb with (h | h) | ⟨h, h'⟩
        · omega
        · omega
        · have := a3 (by omega)
          rw [show ((i : Int) - 1).toNat = i - 1 from by omega] at h'
          exact absurd this (Int.not_lt.2 h')
      · rename_i hb3
        refine back (i + 1) [] ?_ ⟨by omega, fun k hk' => ?_⟩ (by omega)
        · (refine ⟨rfl, ?_, ?_⟩ <;> simp only [zE, evp, evx, ev1, evLoad, evStore, evBin, evIf, Zad, forall_const, z38, tb, reduceAdd, reduceSub, reduceMul, reduceEqDiff, reduceLeDiff, reduceLT, Nat.reduceBEq, Nat.reduceBNe, ↓reduceIte, reduceIte, zI])
        · rcases Nat.lt_succ_iff_lt_or_eq.1 hk' with h | rfl
          · exact hk k h
          · refine ⟨by omega, by omega, fun h0 => ?_⟩
            rw [show ((k : Int) - 1).toNat = k - 1 from by omega] at hb
            omega
      · refine back (v + 1) [] ?_ ⟨by omega, fun u hu => ?_⟩ (by omega)
        · (refine ⟨rfl, ?_, ?_⟩ <;> simp only [zE, evp, evx, ev1, evLoad, evStore, evBin, evIf, Zad, forall_const, z38, tb, reduceAdd, reduceSub, reduceMul, reduceEqDiff, reduceLeDiff, reduceLT, Nat.reduceBEq, Nat.reduceBNe, ↓reduceIte, reduceIte, zI])
        · rcases Nat.lt_succ_iff_lt_or_eq.1 hu with h | rfl
          · exact hj u h
          · refine ⟨⟨?_, ?_, ?_, ?_, ?_, ?_⟩, fun k hk' => hk k (by simp only [Gm.x] at hk'; omega)⟩ <;> simp only [Gm.o, Gm.p, Gm.x] <;> omega
    · refine Zax rfl rfl (Zaw rfl ?_ rfl)
      show AV.bool true = AV.bool _
      rw [Zdz]
      exact ⟨ho, hp, hx, fun v hv' => hj v (by simp only [Gm.n] at hv'; omega)⟩
set_option maxRecDepth 4000 in
set_option maxHeartbeats 4000000 in
theorem Zfk : Zb2 Tryd.prog 10 Zay := by
  refine Za8 htb (fn := Tryd.f10) (by kernel_rfl) (by kernel_rfl) rfl (fun args r hS => ?_) (fun args r hS hob hl => ?_)
  · unfold Zay at hS; split at hS <;> first | (cases hS; done) | (cases hS; exact Nat.le_of_ble_eq_true rfl)
  unfold Zay at hS
  split at hS
  case h_2 => cases hS
  rename_i o p x
  simp only [Option.some.injEq] at hS
  subst hS
  simp only [lenP, mkL, lim] at hl
  dsimp only at hob
  repeat' first
    | with_reducible first | apply Zar | apply Zan | apply Zaa | apply Zac | apply Zah | apply Zap | apply Zag | apply Zaj | apply Zaq | apply Zas | apply Zao | apply Zal | apply Zab | apply Zak
    | ((with_reducible refine Zai ?_ ?_); exact rfl) | ((with_reducible refine Zat ?_); refine Zam rfl ?_ ?_ <;> intro hb <;> (try simp only [zH] at hb)) | ((with_reducible refine Zaz ?_); (first | refine Zaf htb hmz noSp fF rfl rfl ?_ | refine Zae hmo htb hmz noSp fF rfl rfl (by kernel_rfl) ?_); intro _ _ _ _ h; simp only [zE, evp, evx, ev1, evLoad, evStore, evBin, evIf, Zad, forall_const, z38, tb, reduceAdd, reduceSub, reduceMul, reduceEqDiff, reduceLeDiff, reduceLT, Nat.reduceBEq, Nat.reduceBNe, ↓reduceIte, reduceIte] at h; obtain ⟨rfl, rfl, rfl, rfl⟩ := h; refine ⟨?_, ?_⟩) | ((with_reducible refine Ob.mk ?_); first | exact trivial | (intros; omega) | ((repeat' first | apply And.intro | (intro a; have b := a; try simp only [zH] at b)) <;> first | assumption | omega | (simp only [zH]; omega)))
  · refine Zax rfl rfl (Zaw rfl ?_ rfl)
    show AV.bool false = AV.bool _
    rw [Zcx]
    rintro ⟨h1, h2, h3, _⟩
    simp only [Gm.n] at h1 h2 h3
    omega
  · have ho : o.length ≤ 20000 := by omega
    have hp : p.length = o.length := by omega
    have hx : x.length = o.length := by omega
    clear hb
    refine Za5 (τ := Nat) (fun i => i ≤ o.length ∧ ∀ v, v < i → Zje ⟨o, p, x⟩ v) (fun i => ⟨24, [(27, .int .i64 i), (26, .int .i64 o.length), (3, .int .i64 o.length), (1, .rop (.agg (.cons (.roI o) (.cons (.roI p) (.cons (.roII x) .nil)))))], [], []⟩) (fun i => o.length - i) 0 [] ⟨rfl, by simp [zE, evp, evx, ev1, evLoad, evStore, evBin, evIf, Zad, forall_const, z38, tb, reduceAdd, reduceSub, reduceMul, reduceEqDiff, reduceLeDiff, reduceLT, Nat.reduceBEq, Nat.reduceBNe, ↓reduceIte, reduceIte], by simp only [zE, evp, evx, ev1, evLoad, evStore, evBin, evIf, Zad, forall_const, z38, tb, reduceAdd, reduceSub, reduceMul, reduceEqDiff, reduceLeDiff, reduceLT, Nat.reduceBEq, Nat.reduceBNe, ↓reduceIte, reduceIte]⟩ ⟨by omega, by omega⟩ ?_
    rintro v ⟨hv, hj⟩
    repeat' first
      | with_reducible first | apply Zar | apply Zan | apply Zaa | apply Zac | apply Zah | apply Zap | apply Zag | apply Zaj | apply Zaq | apply Zas | apply Zao | apply Zal | apply Zab | apply Zak
      | ((with_reducible refine Zai ?_ ?_); exact rfl) | ((with_reducible refine Zat ?_); refine Zam rfl ?_ ?_ <;> intro hb <;> (try simp only [zH] at hb)) | ((with_reducible refine Zaz ?_); (first | refine Zaf htb hmz noSp fF rfl rfl ?_ | refine Zae hmo htb hmz noSp fF rfl rfl (by kernel_rfl) ?_); intro _ _ _ _ h; simp only [zE, evp, evx, ev1, evLoad, evStore, evBin, evIf, Zad, forall_const, z38, tb, reduceAdd, reduceSub, reduceMul, reduceEqDiff, reduceLeDiff, reduceLT, Nat.reduceBEq, Nat.reduceBNe, ↓reduceIte, reduceIte] at h; obtain ⟨rfl, rfl, rfl, rfl⟩ := h; refine ⟨?_, ?_⟩) | ((with_reducible refine Ob.mk ?_); first | exact trivial | (intros; omega) | ((repeat' first | apply And.intro | (intro a; have b := a; try simp only [zH] at b)) <;> first | assumption | omega | (simp only [zH]; omega)))
    · refine Zax rfl rfl (Zaw rfl ?_ rfl)
      show AV.bool false = AV.bool _
      rw [Zcx]
      rintro ⟨_, _, _, h4⟩
      obtain ⟨⟨a1, a2, a3, a4, a5, a6⟩, _⟩ := h4 v (by simp only [Gm.n]; omega)
      simp only [Gm.o, Gm.p, Gm.x] at a1 a2 a3 a4 a5 a6
      omega
    · rename_i hb1 hb2
      refine Za5 (τ := Nat) (fun i => i ≤ (x.getD v []).length ∧ ∀ k, k < i → Zjd o.length (x.getD v []) k) (fun i => ⟨82, [(84, .int .i64 i), (83, .int .i64 (x.getD v []).length), (82, .roI (x.getD v [])), (4, .int .i64 v), (27, .int .i64 v), (26, .int .i64 o.length), (3, .int .i64 o.length), (1, .rop (.agg (.cons (.roI o) (.cons (.roI p) (.cons (.roII x) .nil)))))], [], []⟩) (fun i => (x.getD v []).length - i) 0 [] ⟨rfl, by simp [zE, evp, evx, ev1, evLoad, evStore, evBin, evIf, Zad, forall_const, z38, tb, reduceAdd, reduceSub, reduceMul, reduceEqDiff, reduceLeDiff, reduceLT, Nat.reduceBEq, Nat.reduceBNe, ↓reduceIte, reduceIte], by simp only [zE, evp, evx, ev1, evLoad, evStore, evBin, evIf, Zad, forall_const, z38, tb, reduceAdd, reduceSub, reduceMul, reduceEqDiff, reduceLeDiff, reduceLT, Nat.reduceBEq, Nat.reduceBNe, ↓reduceIte, reduceIte]⟩ ⟨by omega, by omega⟩ ?_
      rintro i ⟨hi, hk⟩
      repeat' first
        | with_reducible first | apply Zar | apply Zan | apply Zaa | apply Zac | apply Zah | apply Zap | apply Zag | apply Zaj | apply Zaq | apply Zas | apply Zao | apply Zal | apply Zab | apply Zak
        | ((with_reducible refine Zai ?_ ?_); exact rfl) | ((with_reducible refine Zat ?_); refine Zam rfl ?_ ?_ <;> intro hb <;> (try simp only [zH] at hb)) | ((with_reducible refine Zaz ?_); (first | refine Zaf htb hmz noSp fF rfl rfl ?_ | refine Zae hmo htb hmz noSp fF rfl rfl (by kernel_rfl) ?_); intro _ _ _ _ h; simp only [zE, evp, evx, ev1, evLoad, evStore, evBin, evIf, Zad, forall_const, z38, tb, reduceAdd, reduceSub, reduceMul, reduceEqDiff, reduceLeDiff, reduceLT, Nat.reduceBEq, Nat.reduceBNe, ↓reduceIte, reduceIte] at h; obtain ⟨rfl, rfl, rfl, rfl⟩ := h; refine ⟨?_, ?_⟩) | ((with_reducible refine Ob.mk ?_); first | exact trivial | (intros; omega) | ((repeat' first | apply And.intro | (intro a; have b := a; try simp only [zH] at b)) <;> first | assumption | omega | (simp only [zH]; omega)))
      · refine Zax rfl rfl (Zaw rfl ?_ rfl)
        show AV.bool false = AV.bool _
        rw [Zcx]
        rintro ⟨_, _, _, h4⟩
        obtain ⟨_, h5⟩ := h4 v (by simp only [Gm.n]; omega)
        obtain ⟨a1, a2, a3⟩ := h5 i (by simp only [Gm.x]; omega)
        simp only [Gm.x, Gm.n] at a1 a2 a3
        rcases hb with (h | h) | ⟨h, h'⟩
        · omega
        · omega
        · have := a3 (by omega)
          rw [show ((i : Int) - 1).toNat = i - 1 from by omega] at h'
          exact absurd this (Int.not_lt.2 h')
      · rename_i hb3
        refine back (i + 1) [] ?_ ⟨by omega, fun k hk' => ?_⟩ (by omega)
        · (refine ⟨rfl, ?_, ?_⟩ <;> simp only [zE, evp, evx, ev1, evLoad, evStore, evBin, evIf, Zad, forall_const, z38, tb, reduceAdd, reduceSub, reduceMul, reduceEqDiff, reduceLeDiff, reduceLT, Nat.reduceBEq, Nat.reduceBNe, ↓reduceIte, reduceIte, zI])
        · rcases Nat.lt_succ_iff_lt_or_eq.1 hk' with h | rfl
          · exact hk k h
          · refine ⟨by omega, by omega, fun h0 => ?_⟩
            rw [show ((k : Int) - 1).toNat = k - 1 from by omega] at hb
            omega
      · refine back (v + 1) [] ?_ ⟨by omega, fun u hu => ?_⟩ (by omega)
        · (refine ⟨rfl, ?_, ?_⟩ <;> simp only [zE, evp, evx, ev1, evLoad, evStore, evBin, evIf, Zad, forall_const, z38, tb, reduceAdd, reduceSub, reduceMul, reduceEqDiff, reduceLeDiff, reduceLT, Nat.reduceBEq, Nat.reduceBNe, ↓reduceIte, reduceIte, zI])
        · rcases Nat.lt_succ_iff_lt_or_eq.1 hu with h | rfl
          · exact hj u h
          · refine ⟨⟨?_, ?_, ?_, ?_, ?_, ?_⟩, fun k hk' => hk k (by simp only [Gm.x] at hk'; omega)⟩ <;> simp only [Gm.o, Gm.p, Gm.x] <;> omega
    · refine Zax rfl rfl (Zaw rfl ?_ rfl)
      show AV.bool true = AV.bool _
      rw [Zdz]
      exact ⟨ho, hp, hx, fun v hv' => hj v (by simp only [Gm.n] at hv'; omega)⟩
end Go.Proofs.YtdhoadhkkecjjaaDoor.Cal
namespace Go.Proofs.YtdhoadhkkecjjaaDoor.Pl
theorem Zfb : ∀ (n : Nat) (l : List Nat), l.Nodup → (∀ x, x ∈ l → x < n) → l.length ≤ n := by
  intro n
  induction n with
  | zero => intro l _ h; cases l with
    | nil => simp
    | cons a t => exact absurd (h a List.mem_cons_self) (Nat.not_lt_zero _)
  | succ n ih =>
    intro l hn h
    have h1 := ih (l.filter fun x => x != n) (hn.filter _) (fun x hx => by
      rw [List.mem_filter] at hx
      have := h x hx.1
      have h2 : x ≠ n := by simpa using hx.2
      omega)
    have h2 : l.length ≤ (l.filter fun x => x != n).length + 1 := by
      clear ih h h1
      induction l with
      | nil => simp
      | cons a t ih =>
        rw [List.nodup_cons] at hn
        by_cases ha : a = n
        · subst ha
          have : (t.filter fun x => x != a) = t := List.filter_eq_self.2 fun x hx => by
            have : x ≠ a := fun e => hn.1 (e ▸ hx)
            simpa using this
          rw [List.filter_cons]
          simp [this]
        · rw [List.filter_cons]
          have : (a != n) = true := by simpa using ha
          rw [if_pos this]
          have := ih hn.2
          simp only [List.length_cons]
          omega
    omega
def orb (f : Nat → Nat) (s : Nat) : Nat → Nat
  | 0 => s
  | k + 1 => f (orb f s k)
def Zhp (f : Nat → Nat) (s k : Nat) : Prop := ∀ i j, i < j → j < k → orb f s i ≠ orb f s j
theorem Zd3 {f : Nat → Nat} {s n k : Nat} (hn : ∀ j, orb f s j < n) (h : Zhp f s k) : k ≤ n := by
  have h1 := Zfb n ((List.range k).map (orb f s)) (by
    rw [List.nodup_iff_pairwise_ne, List.pairwise_map]
    refine List.Pairwise.imp_of_mem ?_ (List.pairwise_lt_range (n := k))
    intro a b ha hb hab
    exact h a b hab (List.mem_range.1 hb)) (fun x hx => by
    obtain ⟨j, _, rfl⟩ := List.mem_map.1 hx
    exact hn j)
  simpa using h1
theorem Zdx {f : Nat → Nat} {s k : Nat} (h : Zhp f s k) (h2 : ∀ i, i < k → orb f s i ≠ orb f s k) : Zhp f s (k + 1) := fun i j hij hj => by
  rcases Nat.lt_succ_iff_lt_or_eq.1 hj with h' | rfl
  · exact h i j hij h'
  · exact h2 i hij
def Ze5 (f : Nat → Nat) (s L k : Nat) : Prop := Zhp f s L ∧ k < L ∧ orb f s L = orb f s k
theorem again_unique {f : Nat → Nat} {s L k L' k' : Nat} (h : Ze5 f s L k) (h' : Ze5 f s L' k') : L = L' ∧ k = k' := by
  obtain ⟨h1, h2, h3⟩ := h
  obtain ⟨h1', h2', h3'⟩ := h'
  have hL : L = L' := by
    rcases Nat.lt_trichotomy L L' with hl | hl | hl
    · exact absurd h3.symm (h1' k L h2 hl)
    · exact hl
    · exact absurd h3'.symm (h1 k' L' h2' hl)
  subst hL
  refine ⟨rfl, ?_⟩
  rcases Nat.lt_trichotomy k k' with hk | hk | hk
  · exact absurd (h3.symm.trans h3') (h1 k k' hk h2')
  · exact hk
  · exact absurd (h3'.symm.trans h3) (h1 k' k hk h2)
theorem again_ex {f : Nat → Nat} {s n : Nat} (hn : ∀ j, orb f s j < n) : ∃ L k, Ze5 f s L k ∧ L ≤ n := by
  have key : ∀ m, m ≤ n + 1 → Zhp f s m ∨ ∃ L k, Ze5 f s L k ∧ L < m := by
    intro m
    induction m with
    | zero => intro _; exact .inl fun i j _ hj => absurd hj (Nat.not_lt_zero _)
    | succ m ih =>
      intro hm
      rcases ih (by omega) with h | ⟨L, k, h, hl⟩
      · by_cases hx : ∃ i, i < m ∧ orb f s i = orb f s m
        · obtain ⟨i, hi, e⟩ := hx
          exact .inr ⟨m, i, ⟨h, hi, e.symm⟩, by omega⟩
        · exact .inl (Zdx h fun i hi e => hx ⟨i, hi, e⟩)
      · exact .inr ⟨L, k, h, by omega⟩
  rcases key (n + 1) (Nat.le_refl _) with h | ⟨L, k, h, hl⟩
  · have := Zd3 hn h; omega
  · exact ⟨L, k, h, by omega⟩
end Go.Proofs.YtdhoadhkkecjjaaDoor.Pl
namespace Go.Proofs.YtdhoadhkkecjjaaDoor.Cal
theorem take1 {α : Type} {x : List α} {i : Nat} {d : α} (h : i < x.length) : x.take (i + 1) = x.take i ++ [x.getD i d] := by
  rw [List.take_add_one, List.getD_eq_getElem?_getD, List.getElem?_eq_getElem h]; rfl
def mix {β : Type} (f h : Nat → β) (n i : Nat) : List β := (List.range n).map fun v => if v < i then f v else h v
theorem mix_len {β : Type} {f h : Nat → β} {n i : Nat} : (mix f h n i).length = n := by simp [mix]
theorem mix_set {β : Type} {f h : Nat → β} {n i : Nat} : (mix f h n i).set i (f i) = mix f h n (i + 1) := by
  refine List.ext_getElem? fun j => ?_
  rw [List.getElem?_set]
  simp only [mix, List.getElem?_map, List.length_map, List.length_range]
  by_cases hj : j < n
  · rw [List.getElem?_range hj]
    by_cases hij : i = j
    · subst hij; simp [hj]
    · rw [if_neg hij]
      simp only [Option.map_some, Option.some.injEq]
      by_cases h1 : j < i
      · rw [if_pos h1, if_pos (by omega)]
      · rw [if_neg h1, if_neg (by omega)]
  · rw [List.getElem?_eq_none (by simpa using hj)]
    by_cases hij : i = j
    · subst hij; simp [hj]
    · rw [if_neg hij]; rfl
theorem mix_all {β : Type} {f h : Nat → β} {n : Nat} : mix f h n n = (List.range n).map f := by
  refine List.map_congr_left fun v hv => ?_
  rw [if_pos (List.mem_range.1 hv)]
def kp (k : List Bool) (n : Nat) : List Nat := (List.range n).filter fun v => k.getD v false
theorem kp_succ {k : List Bool} {n : Nat} : kp k (n + 1) = if k.getD n false = true then kp k n ++ [n] else kp k n := by
  unfold kp
  rw [List.range_succ, List.filter_append]
  cases h : k.getD n false with
  | true => rw [if_pos rfl]; congr 1; simp only [List.filter_cons, h, List.filter_nil]; rfl
  | false => rw [if_neg (by decide)]; simp only [List.filter_cons, h, List.filter_nil]; exact List.append_nil _
open Go Pl
def rws (x : List (List Int)) (v : Nat) : List Nat := (x.getD v []).map Int.toNat
section
def up (f : Nat → Int) (v : Nat) (a : Int) : Nat → Int := fun w => if w = v then a else f w
inductive Rch (E : Nat → Nat → Prop) : Nat → Nat → Prop
  | refl (a : Nat) : Rch E a a
  | step {a b c : Nat} : Rch E a b → E b c → Rch E a c
theorem Rch.trans {E : Nat → Nat → Prop} {a b c : Nat} (h : Rch E a b) (h2 : Rch E b c) : Rch E a c := by
  induction h2 with
  | refl => exact h
  | step _ e ih => exact .step ih e
theorem Rch.one {E : Nat → Nat → Prop} {a b : Nat} (h : E a b) : Rch E a b := .step (.refl a) h
theorem Rch.mono {E E' : Nat → Nat → Prop} (hE : ∀ a b, E a b → E' a b) {a b : Nat} (h : Rch E a b) : Rch E' a b := by
  induction h with
  | refl => exact .refl _
  | step _ e ih => exact .step ih (hE _ _ e)
def Ed (row : Nat → List Nat) (ok : Nat → Prop) (v t : Nat) : Prop := t ∈ row v ∧ ok t
structure TJ (n : Nat) (row : Nat → List Nat) (ok : Nat → Prop) (num low nx of : Nat → Int) (path stack : List Nat) (cnt many : Int) : Prop where
  n0 : ∀ v, v < n → 0 ≤ num v ∧ num v ≤ cnt
  inj : ∀ v w, v < n → w < n → 0 < num v → num v = num w → v = w
  mok : ∀ v, v < n → 0 < num v → ok v
  stk : ∀ v, v ∈ stack ↔ v < n ∧ 0 < num v ∧ of v < 0
  srt : stack.Pairwise fun a b => num a < num b
  psub : path.Sublist stack
  nx0 : ∀ v, v < n → 0 ≤ nx v ∧ nx v ≤ (row v).length
  fin : ∀ v, v < n → 0 < num v → v ∉ path → nx v = (row v).length
  met : ∀ v, v < n → 0 < num v → ∀ j : Nat, (j : Int) < nx v → ok ((row v).getD j 0) → 0 < num ((row v).getD j 0)
  nun : ∀ v, v < n → num v = 0 → nx v = 0
  cls : ∀ v, v < n → 0 ≤ of v → ∀ t, Ed row ok v t → 0 ≤ of t
  ofr : ∀ v, v < n → of v < many ∧ (0 ≤ of v → 0 < num v)
  ofn : ∀ v, v < n → -1 ≤ of v
  scc : ∀ v w, v < n → w < n → 0 ≤ of v → 0 ≤ of w → (of v = of w ↔ Rch (Ed row ok) v w ∧ Rch (Ed row ok) w v)
  i8 : ∀ v, v ∈ path → ∀ w, w ∈ stack → num v ≤ num w → Rch (Ed row ok) v w
  lw : ∀ w, w ∈ stack → ∃ u, u ∈ stack ∧ low w = num u ∧ Rch (Ed row ok) w u
  ll : ∀ w, w ∈ stack → low w ≤ num w
  i10a : ∀ w, w ∈ stack → w ∉ path → low w < num w
  i10b : ∀ p, p ∈ path → ∀ w, w ∈ stack → num p ≤ num w → (∀ p', p' ∈ path → num p' ≤ num w → num p' ≤ num p) → low p ≤ low w
  i11 : ∀ w, w ∈ stack → ∀ j : Nat, (j : Int) < nx w → ok ((row w).getD j 0) → (row w).getD j 0 ∈ stack → low w ≤ num ((row w).getD j 0)
  i12 : ∀ w, w ∈ stack → ∃ p, p ∈ path ∧ num p ≤ num w
  m0 : 0 ≤ many
  mc : many + stack.length ≤ cnt
/-! Sums -/
def sm (f : Nat → Int) : Nat → Int
  | 0 => 0
  | n + 1 => sm f n + f n
end
section
open Go Pl
def okP (p : List Int) (top : Int) (v : Nat) : Prop := p.getD v 0 ≤ top
structure TS where
  num : List Int
  low : List Int
  nx : List Int
  of : List Int
  path : List Nat
  stack : List Nat
  cnt : Int
  many : Int
  i : Nat
def unm (num : List Int) (v : Nat) : Int := if num.getD v 0 = 0 then 1 else 0
structure TV (n : Nat) (p : List Int) (x : List (List Int)) (top : Int) (s : TS) : Prop where
  ln : s.num.length = n
  ll : s.low.length = n
  lx : s.nx.length = n
  lo : s.of.length = n
  tj : TJ n (rws x) (okP p top) (fun v => s.num.getD v 0) (fun v => s.low.getD v 0) (fun v => s.nx.getD v 0) (fun v => s.of.getD v 0) s.path s.stack s.cnt s.many
  cn : s.cnt + sm (unm s.num) n = n
  im : s.i ≤ n
  dn : ∀ v, v < s.i → okP p top v → 0 < s.num.getD v 0
section
variable {n : Nat} {p : List Int} {x : List (List Int)} {top : Int} {s : TS}
theorem TV.next (H : TV n p x top s) (hi : s.i < n) (hd : okP p top s.i → 0 < s.num.getD s.i 0) : TV n p x top { s with i := s.i + 1 } :=
  { H with
    im := hi
    dn := fun v hv ho => (Nat.lt_succ_iff_lt_or_eq.1 hv).elim (fun h => H.dn v h ho) (fun h => by subst h; exact hd ho) }
end
end
section
open Go Pl
def Rch1 (g : Gm) (top : Int) (v w : Nat) : Prop := ∃ t, Ed (rws g.nxt) (okP g.pri top) v t ∧ Rch (Ed (rws g.nxt) (okP g.pri top)) t w
end
section
open Go Pl
def RchA (x : List (List Int)) : Nat → Nat → Prop := Rch fun a b => b ∈ rws x a
theorem RchA.cons {x : List (List Int)} {a b c : Nat} (h : b ∈ rws x a) (h2 : RchA x b c) : RchA x a c := Rch.trans (Rch.one h) h2
def again (g : Gm) (pl : Int) (v : Nat) : Prop := g.pri.getD v 0 % 2 = pl ∧ Rch1 g (g.pri.getD v 0) v v
def Zjk (g : Gm) (pl : Int) (v : Nat) : Prop := ∃ w, w < g.own.length ∧ again g pl w ∧ RchA g.nxt v w
open Classical in
noncomputable def Zgm (g : Gm) (pl : Int) : List Bool := (List.range g.own.length).map fun v => decide (Zjk g pl v)
theorem aloneL_getD {g : Gm} {pl : Int} {v : Nat} (hv : v < g.own.length) : (Zgm g pl).getD v false = true ↔ Zjk g pl v := by
  simp [Zgm, List.getD_eq_getElem?_getD, hv]
end
section
open Pl
def Low (E : Nat → Nat → Prop) (pri : Nat → Int) (w a b : Nat) : Prop := E a b ∧ pri b ≤ pri w
def Cyc (E : Nat → Nat → Prop) (pri : Nat → Int) (w : Nat) : Prop := ∃ t, Low E pri w w t ∧ Rch (Low E pri w) t w
theorem Rch.cons {E : Nat → Nat → Prop} {a b c : Nat} (h : E a b) (h2 : Rch E b c) : Rch E a c := Rch.trans (Rch.one h) h2
def OnC (E : Nat → Nat → Prop) (pri : Nat → Int) (w t z : Nat) : Prop := Rch (Low E pri w) t z ∧ Rch (Low E pri w) z w
theorem cyc_to {E E' : Nat → Nat → Prop} {pri : Nat → Int} {w t : Nat} (ht : Low E pri w w t) (htw : Rch (Low E pri w) t w) (h : ∀ a b, OnC E pri w t a → OnC E pri w t b → E a b → E' a b) : Cyc E' pri w := by
  have hw : OnC E pri w t w := ⟨htw, .refl _⟩
  refine ⟨t, ⟨h w t hw ⟨.refl _, htw⟩ ht.1, ht.2⟩, ?_⟩
  have key : ∀ c, Rch (Low E pri w) t c → Rch (Low E pri w) c w → Rch (Low E' pri w) t c := by
    intro c hc
    induction hc with
    | refl => intro _; exact .refl _
    | step h1 e ih =>
      intro h2
      have h3 := Rch.cons e h2
      exact .step (ih h3) ⟨h _ _ ⟨h1, h3⟩ ⟨.step h1 e, h2⟩ e.1, e.2⟩
  exact key w htw (.refl _)
variable (own pri : Nat → Int) (sx : Nat → List Nat)
def Stp (K : Nat → Prop) (W : Nat → Int) (c : Nat → Nat) (p : Int) (v t : Nat) : Prop := (K v ∧ W v = p) ∧ K t ∧ (own v = p → t = c v) ∧ (own v ≠ p → t ∈ sx v)
structure Sol (K : Nat → Prop) (W : Nat → Int) (c : Nat → Nat) (p : Int) : Prop where
  mine : ∀ v, K v → W v = p → own v = p → c v ∈ sx v ∧ K (c v) ∧ W (c v) = p
  his : ∀ v, K v → W v = p → own v ≠ p → ∀ t, t ∈ sx v → K t → W t = p
  cyc : ∀ w, K w → W w = p → pri w % 2 ≠ p → ¬ Cyc (Stp own sx K W c p) pri w
variable {own pri sx}
variable {K A T R : Nat → Prop} {W W' : Nat → Int} {c c' : Nat → Nat} {r : Nat → Nat} {p q : Int}
variable {B : Nat → Prop} {W2 : Nat → Int} {cA : Nat → Nat} {rA rB : Nat → Nat}
theorem Sol.none (h : ∀ v, ¬ K v) : Sol own pri sx K W c p := ⟨fun v hv => absurd hv (h v), fun v hv => absurd hv (h v), fun v hv => absurd hv (h v)⟩
theorem mod2 (x : Int) : x % 2 = 0 ∨ x % 2 = 1 := by omega
end
open Go
section
variable {P : Program} {ro : Option Nat} {N κ : Nat} {tb : Nat → Option TI}
theorem Zej {id : Nat} {ops : Array Oper} {σ : St} {Q : Exit → St → Prop} (l1 : List Oper) {o : Oper} (l2 : List Oper) (he : ops = (l1 ++ o :: l2).toArray) (hG : noG (l1 ++ o :: l2) = true)
    (h : awpL P ro N κ l1 σ (Zew (fun s => awpL P ro N κ [o] s (Zew (fun s => awpL P ro N κ l2 s Q) Q)) Q)) : awp P ro N κ (.region id ops false) σ Q := by
  subst he
  refine Zdn hG (Zc6 ?_)
  intro n K Z ν w a hg
  refine Zcb ?_ (h n K Z ν w a hg)
  rintro e a' w' ⟨Z', ν', s', h1, h2, h3, h4⟩
  refine ⟨Z', ν', s', h1, h2, h3, ?_⟩
  cases e with
  | normal => exact Zc6 (l1 := [o]) h4
  | _ => exact h4
def rinR (kk : List Nat) (m : Nat) (l : List (Nat × Option Blk)) : List (Nat × Option Blk) → Prop
  | [] => True
  | (k, some B) :: t => (Nat.blt k kk.length = true ∧ menB (ltK kk.length) B ∧ lkr l (rhoC kk m k) = some (renB (rhoC kk m) B)) ∧ rinR kk m l t
  | (_, none) :: t => rinR kk m l t
theorem Zg2 {kk : List Nat} {m : Nat} {l : List (Nat × Option Blk)} {k : Nat} {B : Blk} : ∀ {g : List (Nat × Option Blk)}, rinR kk m l g → (k, some B) ∈ g → Nat.blt k kk.length = true ∧ menB (ltK kk.length) B ∧ lkr l (rhoC kk m k) = some (renB (rhoC kk m) B)
  | [], _, h => absurd h List.not_mem_nil
  | (j, none) :: t, hg, h => by
    rcases List.mem_cons.1 h with e | h
    · cases e
    · exact Zg2 (g := t) hg h
  | (j, some B') :: t, hg, h => by
    rcases List.mem_cons.1 h with e | h
    · cases e; exact hg.1
    · exact Zg2 (g := t) hg.2 h
theorem Zb8 {o : Oper} {x : Operand} {xs : List Operand} {ts : Array TypeId} {f m : Nat} {caps : AV} {env : List (Nat × AV)} {l : List (Nat × Option Blk)} {ms : List Nat} (kk : List Nat) {args : List AV} {rin : List (Nat × Option Blk)} {Q0 : GR → Prop} {Q : Exit → St → Prop}
    (hS : FG P f args rin kk.length Q0)
    (ho : o.op = .call ⟨.value x, xs.toArray, ts⟩) (hgd : o.guard.isNone = true) (hd : Zdj N [o] = true) (hf : opv (lke env) x = .fn f caps) (hpc : properL caps = true)
    (hargs : appL (ofL (opv (lke env)) xs) caps = ren (rhoC kk m) (mkL args)) (hmen : men (ltK kk.length) (mkL args) = true) (hkk : kkOK m kk = true) (hκ : Nat.ble κ m = true)
    (hrin : rinR kk m l rin)
    (next : ∀ gm gv gr, Q0 ⟨gm, gv, gr⟩ → ∀ m' e' l', (m + (gm - kk.length) = m' ∧ putE o.dst (ren (rhoC kk m) gv) env = e' ∧ outR kk m gr l = l') → Q .normal (CS.st ⟨m', e', l', ms⟩)) : awpL P ro N κ [o] (CS.st ⟨m, env, l, ms⟩) Q := by
  refine awpL_call (s := ⟨m, env, l, ms⟩) kk hS ho hgd hd hf hpc hargs hmen hkk hκ (fun j B hj => ?_) (fun g hg hle => next g.m g.val g.rs hg _ _ _ ⟨rfl, rfl, rfl⟩)
  obtain ⟨h1, h2, h3⟩ := Zg2 hrin (Zdt hj).2
  rw [Nat.blt_eq] at h1
  exact ⟨h1, h2, h3⟩
end
section
open Go Pl
structure GOk (g : Gm) : Prop where
  pl : g.pri.length = g.own.length
  xl : g.nxt.length = g.own.length
  n : g.own.length ≤ 20000
  own : ∀ v, v < g.own.length → g.own.getD v 0 = 0 ∨ g.own.getD v 0 = 1
  pri : ∀ v, v < g.own.length → 0 ≤ g.pri.getD v 0 ∧ g.pri.getD v 0 ≤ 60
  row : ∀ v, v < g.own.length → ∀ t, t ∈ rws g.nxt v → t < g.own.length
  len : ∀ v, v < g.own.length → 0 < (g.nxt.getD v []).length ∧ (g.nxt.getD v []).length ≤ 64
  at' : ∀ v, v < g.own.length → ∀ j, j < (g.nxt.getD v []).length → 0 ≤ (g.nxt.getD v []).getD j 0 ∧ (g.nxt.getD v []).getD j 0 < g.own.length
theorem gok {g : Gm} (h : Zhz g) : GOk g := by
  obtain ⟨hn, hpl, hxl, hpos⟩ := h
  have hr : ∀ v, v < g.own.length → ∀ j, j < (g.nxt.getD v []).length → 0 ≤ (g.nxt.getD v []).getD j 0 ∧ (g.nxt.getD v []).getD j 0 < g.own.length := fun v hv j hj => by
    obtain ⟨_, hr⟩ := hpos v hv
    exact ⟨(hr j hj).1, (hr j hj).2.1⟩
  refine ⟨hpl, hxl, hn, fun v hv => ?_, fun v hv => ?_, fun v hv t ht => ?_, fun v hv => ?_, hr⟩
  · obtain ⟨⟨a1, a2, a3, a4, a5, a6⟩, _⟩ := hpos v hv
    simp only [Gm.o] at a1 a2
    omega
  · obtain ⟨⟨a1, a2, a3, a4, a5, a6⟩, _⟩ := hpos v hv
    exact ⟨a3, a4⟩
  · obtain ⟨s, h1, rfl⟩ := List.mem_map.1 ht
    obtain ⟨j, hj, rfl⟩ := List.getElem_of_mem h1
    have := hr v hv j hj
    rw [List.getD_eq_getElem?_getD, List.getElem?_eq_getElem hj, Option.getD_some] at this
    omega
  · obtain ⟨⟨a1, a2, a3, a4, a5, a6⟩, _⟩ := hpos v hv
    exact ⟨a5, a6⟩
end
section
open Go Pl
theorem Rch.mapD {E E' : Nat → Nat → Prop} {D : Nat → Prop} {f : Nat → Nat} (h : ∀ a b, D a → E a b → E' (f a) (f b) ∧ D b) {a b : Nat} (hr : Rch E a b) (ha : D a) : Rch E' (f a) (f b) ∧ D b := by
  induction hr with
  | refl => exact ⟨.refl _, ha⟩
  | step _ e ih => exact ⟨.step ih.1 (h _ _ ih.2 e).1, (h _ _ ih.2 e).2⟩
theorem Zi0 {k : List Bool} {v : Nat} (h : k.getD v false = true) : ∀ {n : Nat}, v < n → (kp k v).length < (kp k n).length ∧ (kp k n).getD (kp k v).length 0 = v
  | 0, hv => absurd hv (Nat.not_lt_zero v)
  | n + 1, hv => by
    rw [kp_succ]
    by_cases e : v = n
    · subst e
      rw [if_pos h]
      refine ⟨by simp, ?_⟩
      rw [List.getD_eq_getElem?_getD, List.getElem?_append_right (Nat.le_refl _), Nat.sub_self]; rfl
    · obtain ⟨h1, h2⟩ := Zi0 h (n := n) (by omega)
      split
      · refine ⟨by rw [List.length_append, List.length_singleton]; omega, ?_⟩
        rw [List.getD_eq_getElem?_getD, List.getElem?_append_left h1, ← List.getD_eq_getElem?_getD]; exact h2
      · exact ⟨h1, h2⟩
theorem kp_at {k : List Bool} {n i : Nat} (h : i < (kp k n).length) : (kp k n).getD i 0 < n ∧ k.getD ((kp k n).getD i 0) false = true := by
  have hm : (kp k n).getD i 0 ∈ kp k n := by
    rw [List.getD_eq_getElem?_getD, List.getElem?_eq_getElem h]; exact List.getElem_mem h
  have := List.mem_filter.1 hm
  exact ⟨List.mem_range.1 this.1, this.2⟩
theorem map_getD {α : Type} {f : Nat → α} {l : List Nat} {i : Nat} {d : α} (h : i < l.length) : (l.map f).getD i d = f (l.getD i 0) := by
  simp [List.getD_eq_getElem?_getD, h]
def selL (g : Gm) (W : List Int) (p : Int) : List Bool := (List.range g.own.length).map fun v => decide (W.getD v 0 = p)
theorem Zgb {g : Gm} {W : List Int} {p : Int} {v : Nat} (hv : v < g.own.length) : (selL g W p).getD v false = true ↔ W.getD v 0 = p := by
  simp [selL, List.getD_eq_getElem?_getD, hv]
def nmF (k : List Bool) (v : Nat) : Int := if k.getD v false = true then ((kp k v).length : Int) else -1
def nxF (g : Gm) (C : List Int) (p : Int) (v : Nat) : List Int := if g.own.getD v 0 = p then [C.getD v 0] else g.nxt.getD v []
def folG (g : Gm) (W C : List Int) (p : Int) : Gm := ⟨(kp (selL g W p) g.own.length).map fun v => g.own.getD v 0, (kp (selL g W p) g.own.length).map fun v => g.pri.getD v 0, (kp (selL g W p) g.own.length).map fun v => (nxF g C p v).map fun t => nmF (selL g W p) t.toNat⟩
open Classical in
noncomputable def cloB (g : Gm) (W C : List Int) (p : Int) : Bool := decide (∀ v, v < g.own.length → W.getD v 0 = p → ∀ t, t ∈ nxF g C p v → W.getD t.toNat 0 = p)
open Classical in
noncomputable def Zbn (g : Gm) (W C : List Int) : Bool := decide (W.length = g.own.length ∧ C.length = g.own.length ∧ ∀ v, v < g.own.length → (W.getD v 0 = 0 ∨ W.getD v 0 = 1) ∧ (g.own.getD v 0 = W.getD v 0 → C.getD v 0 ∈ g.nxt.getD v []) ∧ (g.own.getD v 0 ≠ W.getD v 0 → C.getD v 0 = -1))
noncomputable def slP (g : Gm) (W C : List Int) (p : Int) : Bool := cloB g W C p && !(Zgm (folG g W C p) (1 - p)).any id
noncomputable def solB (g : Gm) (W C : List Int) : Bool := Zbn g W C && slP g W C 0 && slP g W C 1
theorem Zfu {l : List Int} {t : Int} (h : t ∈ l) : ∃ j, j < l.length ∧ l.getD j 0 = t := by
  obtain ⟨j, hj, e⟩ := List.getElem_of_mem h
  exact ⟨j, hj, by rw [List.getD_eq_getElem?_getD, List.getElem?_eq_getElem hj, Option.getD_some]; exact e⟩
theorem Zix {g : Gm} (hG : GOk g) {W C : List Int} {p : Int} (hc : ∀ v, v < g.own.length → W.getD v 0 = p → g.own.getD v 0 = p → C.getD v 0 ∈ g.nxt.getD v []) {v : Nat} (hv : v < g.own.length) (hw : W.getD v 0 = p) {t : Int} (ht : t ∈ nxF g C p v) :
    t ∈ g.nxt.getD v [] ∧ 0 ≤ t ∧ t < g.own.length := by
  have hm : t ∈ g.nxt.getD v [] := by
    unfold nxF at ht
    split at ht
    · rename_i h; rw [List.mem_singleton.1 ht]; exact hc v hv hw h
    · exact ht
  obtain ⟨j, hj, e⟩ := Zfu hm
  have := hG.at' v hv j hj
  rw [e] at this
  exact ⟨hm, this⟩
theorem Zif {g : Gm} (hV : Zhz g) {W C : List Int} {p : Int} (hp : p = 0 ∨ p = 1) (hc : ∀ v, v < g.own.length → W.getD v 0 = p → g.own.getD v 0 = p → C.getD v 0 ∈ g.nxt.getD v []) :
    slP g W C p = true ↔ Sol (fun v => g.own.getD v 0) (fun v => g.pri.getD v 0) (rws g.nxt) (fun v => v < g.own.length) (fun v => W.getD v 0) (fun v => (C.getD v 0).toNat) p := by
  have hG := gok hV
  have hn : (folG g W C p).own.length = (kp (selL g W p) g.own.length).length := List.length_map ..
  have hpr : ∀ i, i < (kp (selL g W p) g.own.length).length → (folG g W C p).pri.getD i 0 = g.pri.getD ((kp (selL g W p) g.own.length).getD i 0) 0 := fun i hi => map_getD hi
  have hrw : ∀ i, i < (kp (selL g W p) g.own.length).length → rws (folG g W C p).nxt i = (nxF g C p ((kp (selL g W p) g.own.length).getD i 0)).map fun t => (nmF (selL g W p) t.toNat).toNat := fun i hi => by
    have : (folG g W C p).nxt.getD i [] = (nxF g C p ((kp (selL g W p) g.own.length).getD i 0)).map fun t => nmF (selL g W p) t.toNat := map_getD hi
    unfold rws
    rw [this, List.map_map]; rfl
  have hnx : ∀ v t, t ∈ nxF g C p v → (g.own.getD v 0 = p → t.toNat = (C.getD v 0).toNat) ∧ (g.own.getD v 0 ≠ p → t.toNat ∈ rws g.nxt v) := fun v t ht => by
    unfold nxF at ht
    split at ht
    · rename_i h; rw [List.mem_singleton.1 ht]; exact ⟨fun _ => rfl, fun h2 => absurd h h2⟩
    · rename_i h; exact ⟨fun h2 => absurd h2 h, fun _ => List.mem_map.2 ⟨t, ht, rfl⟩⟩
  have hxn : ∀ v t, ((g.own.getD v 0 = p → t = (C.getD v 0).toNat) ∧ (g.own.getD v 0 ≠ p → t ∈ rws g.nxt v)) → ∃ s, s ∈ nxF g C p v ∧ s.toNat = t := fun v t h => by
    unfold nxF
    split
    · rename_i e; exact ⟨_, List.mem_singleton.2 rfl, (h.1 e).symm⟩
    · rename_i e; obtain ⟨s, h1, h2⟩ := List.mem_map.1 (h.2 e); exact ⟨s, h1, h2⟩
  have hany : (!(Zgm (folG g W C p) (1 - p)).any id) = true ↔ ∀ i, i < (kp (selL g W p) g.own.length).length → ¬ Zjk (folG g W C p) (1 - p) i := by
    rw [Bool.not_eq_true', List.any_eq_false]
    constructor
    · intro h i hi ha
      have h1 := (aloneL_getD (g := folG g W C p) (by rw [hn]; exact hi)).2 ha
      have hlt : i < (Zgm (folG g W C p) (1 - p)).length := by simp [Zgm, hn, hi]
      rw [List.getD_eq_getElem?_getD, List.getElem?_eq_getElem hlt, Option.getD_some] at h1
      exact h _ (List.getElem_mem hlt) (by rw [h1]; rfl)
    · intro h b hb hb2
      obtain ⟨i, hi, e⟩ := List.getElem_of_mem hb
      have hi2 : i < (kp (selL g W p) g.own.length).length := by simpa [Zgm, hn] using hi
      refine h i hi2 ((aloneL_getD (g := folG g W C p) (by rw [hn]; exact hi2)).1 ?_)
      rw [List.getD_eq_getElem?_getD, List.getElem?_eq_getElem hi, Option.getD_some, e]
      exact hb2
  unfold slP
  rw [Bool.and_eq_true, hany]
  constructor
  · rintro ⟨hcl, hno⟩
    have hcl := of_decide_eq_true hcl
    have hidx : ∀ v, v < g.own.length → W.getD v 0 = p → (kp (selL g W p) v).length < (kp (selL g W p) g.own.length).length ∧ (kp (selL g W p) g.own.length).getD (kp (selL g W p) v).length 0 = v := fun v hv hw => Zi0 ((Zgb hv).2 hw) hv
    refine ⟨fun v hv hw ho => ?_, fun v hv hw ho t ht hk => ?_, fun w hk hw hpw hcy => ?_⟩
    · have h1 := hc v hv hw ho
      have hm : C.getD v 0 ∈ nxF g C p v := by unfold nxF; rw [if_pos ho]; exact List.mem_singleton.2 rfl
      have hb := Zix hG hc hv hw hm
      exact ⟨List.mem_map.2 ⟨_, h1, rfl⟩, by omega, hcl v hv hw _ hm⟩
    · obtain ⟨s, h1, h2⟩ := hxn v t ⟨fun h => absurd h ho, fun _ => ht⟩
      rw [← h2]; exact hcl v hv hw s h1
    · obtain ⟨t, ht, htw⟩ := hcy
      have hE : ∀ a b, True → Low (Stp (fun v => g.own.getD v 0) (rws g.nxt) (fun v => v < g.own.length) (fun v => W.getD v 0) (fun v => (C.getD v 0).toNat) p) (fun v => g.pri.getD v 0) w a b → Ed (rws (folG g W C p).nxt) (okP (folG g W C p).pri (g.pri.getD w 0)) (kp (selL g W p) a).length (kp (selL g W p) b).length ∧ True := fun a b _ hab => by
        obtain ⟨⟨⟨h1, h1w⟩, h2, h3, h4⟩, h5⟩ := hab
        obtain ⟨s, hs1, hs2⟩ := hxn a b ⟨h3, h4⟩
        obtain ⟨i1, i2⟩ := hidx a h1 h1w
        have hbw : W.getD b 0 = p := by rw [← hs2]; exact hcl a h1 h1w s hs1
        obtain ⟨j1, j2⟩ := hidx b h2 hbw
        refine ⟨⟨?_, ?_⟩, trivial⟩
        · rw [hrw _ i1, i2]
          refine List.mem_map.2 ⟨s, hs1, ?_⟩
          rw [hs2]
          unfold nmF
          rw [if_pos ((Zgb h2).2 hbw)]; rfl
        · show (folG g W C p).pri.getD _ 0 ≤ _
          rw [hpr _ j1, j2]; exact h5
      obtain ⟨i1, i2⟩ := hidx w hk hw
      refine hno _ i1 ⟨_, by rw [hn]; exact i1, ⟨?_, (kp (selL g W p) t).length, ?_, ?_⟩, .refl _⟩
      · rw [hpr _ i1, i2]
        have := mod2 (g.pri.getD w 0)
        have hpw : ¬ g.pri.getD w 0 % 2 = p := hpw
        omega
      · rw [hpr _ i1, i2]; exact (hE w t trivial ht).1
      · rw [hpr _ i1, i2]; exact (Rch.mapD (D := fun _ => True) hE htw trivial).1
  · intro hS
    have hcl : ∀ v, v < g.own.length → W.getD v 0 = p → ∀ t, t ∈ nxF g C p v → W.getD t.toNat 0 = p := fun v hv hw t ht => by
      have hb := Zix hG hc hv hw ht
      have := hnx v t ht
      by_cases e : g.own.getD v 0 = p
      · rw [this.1 e]; exact (hS.mine v hv hw e).2.2
      · exact hS.his v hv hw e t.toNat (this.2 e) (by omega)
    refine ⟨decide_eq_true hcl, fun i hi => ?_⟩
    rintro ⟨w, hwn, ⟨h1, t, ht, htw⟩, h2⟩
    rw [hn] at hwn
    have hE : ∀ a b, a < (kp (selL g W p) g.own.length).length → Ed (rws (folG g W C p).nxt) (okP (folG g W C p).pri ((folG g W C p).pri.getD w 0)) a b → Low (Stp (fun v => g.own.getD v 0) (rws g.nxt) (fun v => v < g.own.length) (fun v => W.getD v 0) (fun v => (C.getD v 0).toNat) p) (fun v => g.pri.getD v 0) ((kp (selL g W p) g.own.length).getD w 0) ((kp (selL g W p) g.own.length).getD a 0) ((kp (selL g W p) g.own.length).getD b 0) ∧ b < (kp (selL g W p) g.own.length).length := fun a b ha hab => by
      obtain ⟨h3, h4⟩ := hab
      rw [hrw a ha] at h3
      obtain ⟨s, hs1, hs2⟩ := List.mem_map.1 h3
      obtain ⟨k1, k2⟩ := kp_at ha
      have kw := (Zgb k1).1 k2
      have hb := Zix hG hc k1 kw hs1
      have hsn : s.toNat < g.own.length := by omega
      have hsw := hcl _ k1 kw s hs1
      have hsk := (Zgb (g := g) (W := W) (p := p) hsn).2 hsw
      have hbi : b = (kp (selL g W p) s.toNat).length := by
        rw [← hs2]; unfold nmF; rw [if_pos hsk]; rfl
      obtain ⟨j1, j2⟩ := Zi0 hsk hsn
      rw [← hbi] at j1 j2
      have h4 : (folG g W C p).pri.getD b 0 ≤ (folG g W C p).pri.getD w 0 := h4
      rw [hpr _ j1, hpr _ hwn] at h4
      refine ⟨⟨⟨⟨k1, kw⟩, ?_, ?_, ?_⟩, h4⟩, j1⟩
      · rw [j2]; exact hsn
      · rw [j2]; exact (hnx _ s hs1).1
      · rw [j2]; exact (hnx _ s hs1).2
    obtain ⟨k1, k2⟩ := kp_at hwn
    have kw := (Zgb k1).1 k2
    have ht2 := hE w t hwn ht
    refine hS.cyc _ k1 kw (fun h3 => ?_) ⟨_, ht2.1, (Rch.mapD (D := fun a => a < (kp (selL g W p) g.own.length).length) hE htw ht2.2).1⟩
    have h1 : (folG g W C p).pri.getD w 0 % 2 = 1 - p := h1
    rw [hpr _ hwn] at h1
    have h3 : g.pri.getD ((kp (selL g W p) g.own.length).getD w 0) 0 % 2 = p := h3
    omega
theorem Zhk {g : Gm} {W C : List Int} {p : Int} (h : Zbn g W C = true) : ∀ v, v < g.own.length → W.getD v 0 = p → g.own.getD v 0 = p → C.getD v 0 ∈ g.nxt.getD v [] := fun v hv hw ho => ((of_decide_eq_true h).2.2 v hv).2.1 (ho.trans hw.symm)
theorem solB_iff {g : Gm} (hV : Zhz g) {W C : List Int} : solB g W C = true ↔ Zbn g W C = true ∧ ∀ p, p = 0 ∨ p = 1 → Sol (fun v => g.own.getD v 0) (fun v => g.pri.getD v 0) (rws g.nxt) (fun v => v < g.own.length) (fun v => W.getD v 0) (fun v => (C.getD v 0).toNat) p := by
  unfold solB
  rw [Bool.and_eq_true, Bool.and_eq_true]
  constructor
  · rintro ⟨⟨h1, h2⟩, h3⟩
    refine ⟨h1, fun p hp => ?_⟩
    rcases hp with rfl | rfl
    · exact (Zif hV (.inl rfl) (Zhk h1)).1 h2
    · exact (Zif hV (.inr rfl) (Zhk h1)).1 h3
  · rintro ⟨h1, h2⟩
    exact ⟨⟨h1, (Zif hV (.inl rfl) (Zhk h1)).2 (h2 0 (.inl rfl))⟩, (Zif hV (.inr rfl) (Zhk h1)).2 (h2 1 (.inr rfl))⟩
end
end Go.Proofs.YtdhoadhkkecjjaaDoor.Cal
