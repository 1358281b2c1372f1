/- Own texts of the proof, merged, in order. -/
import Derived.Test.YtbcghiagomkadaaS10
set_option linter.unusedVariables false
set_option linter.unusedSimpArgs false
namespace Go.Proofs.Ytbcghiagomkadaa.Cal
open Go
theorem zE0 : type_of% (And.intro @evOut.eq_1 <| And.intro @evOut.eq_2 <| And.intro @evStep.eq_1 <| And.intro @evCap.eq_1 <| And.intro @evCap.eq_2 <| And.intro @evMap.eq_1 <| And.intro @evMap.eq_2 <| And.intro @evMap.eq_3 <| And.intro @evMap.eq_4 <| And.intro @isIntS.eq_1 <| And.intro @gua.eq_1 <| And.intro @eq_self.{1} <| And.intro @evo.eq_1 <| And.intro @ev1.eq_1 <| And.intro @ev1.eq_2 <| And.intro @ev1.eq_3 <| And.intro @ev1.eq_4 <| And.intro @ev1.eq_5 <| And.intro @ev1.eq_6 <| And.intro @ev1.eq_7 <| And.intro @ev1.eq_8 <| And.intro @ev1.eq_9 <| And.intro @ev1.eq_10 <| And.intro @evx.eq_1 <| And.intro @evx.eq_2 <| And.intro @evx.eq_3 <| And.intro @evx.eq_4 <| And.intro @evx.eq_5 <| And.intro @evx.eq_6 <| And.intro @evx.eq_7 <| And.intro @evx.eq_8 <| And.intro @evx.eq_9 <| And.intro @evp.eq_1 <| And.intro @evp.eq_2 <| And.intro @evp.eq_3 <| And.intro @evp.eq_4 <| And.intro @evp.eq_5 <| And.intro @evp.eq_6 <| And.intro @evp.eq_7 <| And.intro @evp.eq_8 <| And.intro @evp.eq_9 <| And.intro @evp.eq_10 <| And.intro @evp.eq_11 <| And.intro @evp.eq_12 <| And.intro @evp.eq_13 <| And.intro @evp.eq_14 <| And.intro @evp.eq_15 <| And.intro @evp.eq_16 <| And.intro @ofP.eq_1 <| And.intro @ofP.eq_2 <| And.intro @guardOf.eq_1 <| And.intro @opv.eq_1 <| And.intro @opv.eq_2 <| And.intro @opv.eq_3 <| And.intro @opv.eq_4 <| And.intro @opv.eq_5 <| And.intro @opv.eq_6 <| And.intro @Zdf <| And.intro @lke_nil <| And.intro @Za4 <| And.intro @Zax <| And.intro @isC.eq_1 <| And.intro @isC.eq_2 <| And.intro @isC.eq_3 <| And.intro @isC.eq_4 <| And.intro @isC.eq_5 <| And.intro @isC.eq_6 <| And.intro @isC.eq_7 <| And.intro @isC.eq_8 <| And.intro @isC.eq_9 <| And.intro @isC.eq_10 <| @isC.eq_11) := And.intro @evOut.eq_1 <| And.intro @evOut.eq_2 <| And.intro @evStep.eq_1 <| And.intro @evCap.eq_1 <| And.intro @evCap.eq_2 <| And.intro @evMap.eq_1 <| And.intro @evMap.eq_2 <| And.intro @evMap.eq_3 <| And.intro @evMap.eq_4 <| And.intro @isIntS.eq_1 <| And.intro @gua.eq_1 <| And.intro @eq_self.{1} <| And.intro @evo.eq_1 <| And.intro @ev1.eq_1 <| And.intro @ev1.eq_2 <| And.intro @ev1.eq_3 <| And.intro @ev1.eq_4 <| And.intro @ev1.eq_5 <| And.intro @ev1.eq_6 <| And.intro @ev1.eq_7 <| And.intro @ev1.eq_8 <| And.intro @ev1.eq_9 <| And.intro @ev1.eq_10 <| And.intro @evx.eq_1 <| And.intro @evx.eq_2 <| And.intro @evx.eq_3 <| And.intro @evx.eq_4 <| And.intro @evx.eq_5 <| And.intro @evx.eq_6 <| And.intro @evx.eq_7 <| And.intro @evx.eq_8 <| And.intro @evx.eq_9 <| And.intro @evp.eq_1 <| And.intro @evp.eq_2 <| And.intro @evp.eq_3 <| And.intro @evp.eq_4 <| And.intro @evp.eq_5 <| And.intro @evp.eq_6 <| And.intro @evp.eq_7 <| And.intro @evp.eq_8 <| And.intro @evp.eq_9 <| And.intro @evp.eq_10 <| And.intro @evp.eq_11 <| And.intro @evp.eq_12 <| And.intro @evp.eq_13 <| And.intro @evp.eq_14 <| And.intro @evp.eq_15 <| And.intro @evp.eq_16 <| And.intro @ofP.eq_1 <| And.intro @ofP.eq_2 <| And.intro @guardOf.eq_1 <| And.intro @opv.eq_1 <| And.intro @opv.eq_2 <| And.intro @opv.eq_3 <| And.intro @opv.eq_4 <| And.intro @opv.eq_5 <| And.intro @opv.eq_6 <| And.intro @Zdf <| And.intro @lke_nil <| And.intro @Za4 <| And.intro @Zax <| And.intro @isC.eq_1 <| And.intro @isC.eq_2 <| And.intro @isC.eq_3 <| And.intro @isC.eq_4 <| And.intro @isC.eq_5 <| And.intro @isC.eq_6 <| And.intro @isC.eq_7 <| And.intro @isC.eq_8 <| And.intro @isC.eq_9 <| And.intro @isC.eq_10 <| @isC.eq_11
theorem zE1 : type_of% (And.intro @isC.eq_12 <| And.intro @isC.eq_13 <| And.intro @isC.eq_14 <| And.intro @isC.eq_15 <| And.intro @isC.eq_16 <| And.intro @isCC.eq_1 <| And.intro @isCC.eq_2 <| And.intro @isCL.eq_1 <| And.intro @isCL.eq_2 <| And.intro @isCL.eq_3 <| And.intro @men.eq_1 <| And.intro @men.eq_2 <| And.intro @men.eq_3 <| And.intro @men.eq_4 <| And.intro @men.eq_5 <| And.intro @men.eq_6 <| And.intro @men.eq_7 <| And.intro @men.eq_8 <| And.intro @men.eq_9 <| And.intro @putE.eq_1 <| And.intro @putE.eq_2 <| And.intro @setW.eq_1 <| And.intro @setW.eq_2 <| And.intro @setW.eq_3 <| And.intro @set1.eq_1 <| And.intro @set1.eq_2 <| And.intro @del.eq_1 <| And.intro @del.eq_2 <| And.intro @evLoad.eq_1 <| And.intro @evLoad.eq_2 <| And.intro @evLoad.eq_3 <| And.intro @evLoad.eq_4 <| And.intro @evField.eq_1 <| And.intro @evIndex.eq_1 <| And.intro @evIndex.eq_2 <| And.intro @evIndex.eq_3 <| And.intro @evIndex.eq_4 <| And.intro @evIndex.eq_5 <| And.intro @evIndex.eq_6 <| And.intro @evIndex.eq_7 <| And.intro @evIndex.eq_8 <| And.intro @evIndex.eq_9 <| And.intro @evBin.eq_1 <| And.intro @evBin.eq_2 <| And.intro @evBin.eq_3 <| And.intro @evBin.eq_4 <| And.intro @evBin.eq_5 <| And.intro @evBin.eq_6 <| And.intro @evBin.eq_7 <| And.intro @evBin.eq_8 <| And.intro @evBin.eq_9 <| And.intro @evBin.eq_10 <| And.intro @evBin.eq_11 <| And.intro @lenOf.eq_1 <| And.intro @lenOf.eq_2 <| And.intro @lenOf.eq_3 <| And.intro @lenOf.eq_4 <| And.intro @lenOf.eq_5 <| And.intro @lenOf.eq_6 <| And.intro @lenOf.eq_7 <| And.intro @evSlice.eq_1 <| And.intro @evSlice.eq_2 <| And.intro @evSlice.eq_3 <| And.intro @bnd.eq_1 <| And.intro @bnd.eq_2 <| And.intro @cutI.eq_1 <| And.intro @cutI.eq_2 <| And.intro @subv.eq_1 <| And.intro @selv.eq_1 <| And.intro @isV.eq_1 <| And.intro @isV.eq_2 <| @isV.eq_3) := And.intro @isC.eq_12 <| And.intro @isC.eq_13 <| And.intro @isC.eq_14 <| And.intro @isC.eq_15 <| And.intro @isC.eq_16 <| And.intro @isCC.eq_1 <| And.intro @isCC.eq_2 <| And.intro @isCL.eq_1 <| And.intro @isCL.eq_2 <| And.intro @isCL.eq_3 <| And.intro @men.eq_1 <| And.intro @men.eq_2 <| And.intro @men.eq_3 <| And.intro @men.eq_4 <| And.intro @men.eq_5 <| And.intro @men.eq_6 <| And.intro @men.eq_7 <| And.intro @men.eq_8 <| And.intro @men.eq_9 <| And.intro @putE.eq_1 <| And.intro @putE.eq_2 <| And.intro @setW.eq_1 <| And.intro @setW.eq_2 <| And.intro @setW.eq_3 <| And.intro @set1.eq_1 <| And.intro @set1.eq_2 <| And.intro @del.eq_1 <| And.intro @del.eq_2 <| And.intro @evLoad.eq_1 <| And.intro @evLoad.eq_2 <| And.intro @evLoad.eq_3 <| And.intro @evLoad.eq_4 <| And.intro @evField.eq_1 <| And.intro @evIndex.eq_1 <| And.intro @evIndex.eq_2 <| And.intro @evIndex.eq_3 <| And.intro @evIndex.eq_4 <| And.intro @evIndex.eq_5 <| And.intro @evIndex.eq_6 <| And.intro @evIndex.eq_7 <| And.intro @evIndex.eq_8 <| And.intro @evIndex.eq_9 <| And.intro @evBin.eq_1 <| And.intro @evBin.eq_2 <| And.intro @evBin.eq_3 <| And.intro @evBin.eq_4 <| And.intro @evBin.eq_5 <| And.intro @evBin.eq_6 <| And.intro @evBin.eq_7 <| And.intro @evBin.eq_8 <| And.intro @evBin.eq_9 <| And.intro @evBin.eq_10 <| And.intro @evBin.eq_11 <| And.intro @lenOf.eq_1 <| And.intro @lenOf.eq_2 <| And.intro @lenOf.eq_3 <| And.intro @lenOf.eq_4 <| And.intro @lenOf.eq_5 <| And.intro @lenOf.eq_6 <| And.intro @lenOf.eq_7 <| And.intro @evSlice.eq_1 <| And.intro @evSlice.eq_2 <| And.intro @evSlice.eq_3 <| And.intro @bnd.eq_1 <| And.intro @bnd.eq_2 <| And.intro @cutI.eq_1 <| And.intro @cutI.eq_2 <| And.intro @subv.eq_1 <| And.intro @selv.eq_1 <| And.intro @isV.eq_1 <| And.intro @isV.eq_2 <| @isV.eq_3
theorem zE2 : type_of% (And.intro @isV.eq_4 <| And.intro @isAg.eq_1 <| And.intro @isAg.eq_2 <| And.intro @cellsL.eq_1 <| And.intro @cellsL.eq_2 <| And.intro @lenL.eq_1 <| And.intro @lenL.eq_2 <| And.intro @properL.eq_1 <| And.intro @properL.eq_2 <| And.intro @properL.eq_3 <| And.intro @nthL.eq_1 <| And.intro @nthL.eq_2 <| And.intro @nthL.eq_3 <| And.intro @dropL.eq_1 <| And.intro @dropL.eq_2 <| And.intro @dropL.eq_3 <| And.intro @takeL.eq_1 <| And.intro @takeL.eq_2 <| And.intro @takeL.eq_3 <| And.intro @appL.eq_1 <| And.intro @appL.eq_2 <| And.intro @setL.eq_1 <| And.intro @setL.eq_2 <| And.intro @setL.eq_3 <| And.intro @updv.eq_1 <| And.intro @updv.eq_2 <| And.intro @TI.isStr.eq_1 <| And.intro @strip.eq_1 <| And.intro @strip.eq_2 <| And.intro @gd.eq_1 <| And.intro @gd.eq_2 <| And.intro @gds.eq_1 <| And.intro @gds.eq_2 <| And.intro @whnR.eq_1 <| And.intro @whnR.eq_2 <| And.intro @evPick.eq_1 <| And.intro @evStore.eq_1 <| And.intro @evStore.eq_2 <| And.intro @evStore.eq_3 <| And.intro @stBox.eq_1 <| And.intro @evApp.eq_1 <| And.intro @evApp.eq_2 <| And.intro @evApp.eq_3 <| And.intro @evAppS.eq_1 <| And.intro @evAppS.eq_2 <| And.intro @evAppS.eq_3 <| And.intro @evAppS.eq_4 <| And.intro @List.getD_cons_zero.{0} <| And.intro @srcI.eq_1 <| And.intro @srcI.eq_2 <| And.intro @srcI.eq_3 <| And.intro @srcB.eq_1 <| And.intro @srcB.eq_2 <| And.intro @srcB.eq_3 <| And.intro @srcR.eq_1 <| And.intro @srcR.eq_2 <| And.intro @srcR.eq_3 <| And.intro @evBuildS.eq_1 <| And.intro @evBuildS.eq_2 <| And.intro @evTake.eq_1 <| And.intro @evTake.eq_2 <| And.intro @makeB.eq_1 <| And.intro @makeB.eq_2 <| And.intro @isNilS.eq_1 <| And.intro @isNilS.eq_2 <| And.intro @partsOK.eq_1 <| And.intro @elemsOf.eq_1 <| And.intro @collI.eq_1 <| And.intro @collI.eq_2 <| And.intro @collI.eq_3 <| And.intro @collB.eq_1 <| @collB.eq_2) := And.intro @isV.eq_4 <| And.intro @isAg.eq_1 <| And.intro @isAg.eq_2 <| And.intro @cellsL.eq_1 <| And.intro @cellsL.eq_2 <| And.intro @lenL.eq_1 <| And.intro @lenL.eq_2 <| And.intro @properL.eq_1 <| And.intro @properL.eq_2 <| And.intro @properL.eq_3 <| And.intro @nthL.eq_1 <| And.intro @nthL.eq_2 <| And.intro @nthL.eq_3 <| And.intro @dropL.eq_1 <| And.intro @dropL.eq_2 <| And.intro @dropL.eq_3 <| And.intro @takeL.eq_1 <| And.intro @takeL.eq_2 <| And.intro @takeL.eq_3 <| And.intro @appL.eq_1 <| And.intro @appL.eq_2 <| And.intro @setL.eq_1 <| And.intro @setL.eq_2 <| And.intro @setL.eq_3 <| And.intro @updv.eq_1 <| And.intro @updv.eq_2 <| And.intro @TI.isStr.eq_1 <| And.intro @strip.eq_1 <| And.intro @strip.eq_2 <| And.intro @gd.eq_1 <| And.intro @gd.eq_2 <| And.intro @gds.eq_1 <| And.intro @gds.eq_2 <| And.intro @whnR.eq_1 <| And.intro @whnR.eq_2 <| And.intro @evPick.eq_1 <| And.intro @evStore.eq_1 <| And.intro @evStore.eq_2 <| And.intro @evStore.eq_3 <| And.intro @stBox.eq_1 <| And.intro @evApp.eq_1 <| And.intro @evApp.eq_2 <| And.intro @evApp.eq_3 <| And.intro @evAppS.eq_1 <| And.intro @evAppS.eq_2 <| And.intro @evAppS.eq_3 <| And.intro @evAppS.eq_4 <| And.intro @List.getD_cons_zero.{0} <| And.intro @srcI.eq_1 <| And.intro @srcI.eq_2 <| And.intro @srcI.eq_3 <| And.intro @srcB.eq_1 <| And.intro @srcB.eq_2 <| And.intro @srcB.eq_3 <| And.intro @srcR.eq_1 <| And.intro @srcR.eq_2 <| And.intro @srcR.eq_3 <| And.intro @evBuildS.eq_1 <| And.intro @evBuildS.eq_2 <| And.intro @evTake.eq_1 <| And.intro @evTake.eq_2 <| And.intro @makeB.eq_1 <| And.intro @makeB.eq_2 <| And.intro @isNilS.eq_1 <| And.intro @isNilS.eq_2 <| And.intro @partsOK.eq_1 <| And.intro @elemsOf.eq_1 <| And.intro @collI.eq_1 <| And.intro @collI.eq_2 <| And.intro @collI.eq_3 <| And.intro @collB.eq_1 <| @collB.eq_2
theorem zE3 : type_of% (And.intro @collB.eq_3 <| And.intro @collII.eq_1 <| And.intro @collII.eq_2 <| And.intro @collII.eq_3 <| And.intro @allC.eq_1 <| And.intro @allN.eq_1 <| And.intro @fillL.eq_1 <| And.intro @fillL.eq_2 <| And.intro @evCut.eq_1 <| And.intro @evFz.eq_1 <| And.intro @evFz.eq_2 <| And.intro @evFz.eq_3 <| And.intro @evFz.eq_4 <| And.intro @evFz.eq_5 <| And.intro @lko.eq_1 <| And.intro @lko.eq_2 <| And.intro @z0.{0} <| And.intro @renB.eq_1 <| And.intro @renB.eq_2 <| And.intro @renB.eq_3 <| And.intro @renB.eq_4 <| And.intro @renB.eq_5 <| And.intro @z1.{0} <| And.intro @z2.{0} <| And.intro @z3 <| And.intro @z4 <| And.intro @notD.eq_1 <| And.intro @notD.eq_2 <| And.intro @chkG.eq_1 <| And.intro @evCopy.eq_1 <| And.intro @evCall.eq_1 <| And.intro @ofSR.eq_1 <| And.intro @viewA.eq_1 <| And.intro @viewA.eq_2 <| And.intro @viewA.eq_3 <| And.intro @viewA.eq_4 <| And.intro @viewA.eq_5 <| And.intro @lsOf.eq_1 <| And.intro @lsOf.eq_2 <| And.intro @ofL.eq_1 <| And.intro @ofL.eq_2 <| And.intro @zfree.eq_1 <| And.intro @zfree.eq_2 <| And.intro @zfree.eq_3 <| And.intro @zfree.eq_4 <| And.intro @zfree.eq_5 <| And.intro @zfree.eq_6 <| And.intro @zfree.eq_7 <| And.intro @zfree.eq_8 <| And.intro @zfree.eq_9 <| And.intro @zfree.eq_10 <| And.intro @zfree.eq_11 <| And.intro @zfreeB.eq_1 <| And.intro @zfreeB.eq_2 <| And.intro @zfreeB.eq_3 <| And.intro @zfreeB.eq_4 <| And.intro @freeB.eq_1 <| And.intro @freeB.eq_2 <| And.intro @freeB.eq_3 <| And.intro @freeB.eq_4 <| And.intro @freeB.eq_5 <| And.intro @freeB.eq_6 <| And.intro @isOne.eq_1 <| And.intro @ren.eq_1 <| And.intro @ren.eq_2 <| And.intro @ren.eq_3 <| And.intro @ren.eq_4 <| And.intro @ren.eq_5 <| And.intro @ren.eq_6 <| And.intro @ren.eq_7 <| And.intro @ren.eq_8 <| @ren.eq_9) := And.intro @collB.eq_3 <| And.intro @collII.eq_1 <| And.intro @collII.eq_2 <| And.intro @collII.eq_3 <| And.intro @allC.eq_1 <| And.intro @allN.eq_1 <| And.intro @fillL.eq_1 <| And.intro @fillL.eq_2 <| And.intro @evCut.eq_1 <| And.intro @evFz.eq_1 <| And.intro @evFz.eq_2 <| And.intro @evFz.eq_3 <| And.intro @evFz.eq_4 <| And.intro @evFz.eq_5 <| And.intro @lko.eq_1 <| And.intro @lko.eq_2 <| And.intro @z0.{0} <| And.intro @renB.eq_1 <| And.intro @renB.eq_2 <| And.intro @renB.eq_3 <| And.intro @renB.eq_4 <| And.intro @renB.eq_5 <| And.intro @z1.{0} <| And.intro @z2.{0} <| And.intro @z3 <| And.intro @z4 <| And.intro @notD.eq_1 <| And.intro @notD.eq_2 <| And.intro @chkG.eq_1 <| And.intro @evCopy.eq_1 <| And.intro @evCall.eq_1 <| And.intro @ofSR.eq_1 <| And.intro @viewA.eq_1 <| And.intro @viewA.eq_2 <| And.intro @viewA.eq_3 <| And.intro @viewA.eq_4 <| And.intro @viewA.eq_5 <| And.intro @lsOf.eq_1 <| And.intro @lsOf.eq_2 <| And.intro @ofL.eq_1 <| And.intro @ofL.eq_2 <| And.intro @zfree.eq_1 <| And.intro @zfree.eq_2 <| And.intro @zfree.eq_3 <| And.intro @zfree.eq_4 <| And.intro @zfree.eq_5 <| And.intro @zfree.eq_6 <| And.intro @zfree.eq_7 <| And.intro @zfree.eq_8 <| And.intro @zfree.eq_9 <| And.intro @zfree.eq_10 <| And.intro @zfree.eq_11 <| And.intro @zfreeB.eq_1 <| And.intro @zfreeB.eq_2 <| And.intro @zfreeB.eq_3 <| And.intro @zfreeB.eq_4 <| And.intro @freeB.eq_1 <| And.intro @freeB.eq_2 <| And.intro @freeB.eq_3 <| And.intro @freeB.eq_4 <| And.intro @freeB.eq_5 <| And.intro @freeB.eq_6 <| And.intro @isOne.eq_1 <| And.intro @ren.eq_1 <| And.intro @ren.eq_2 <| And.intro @ren.eq_3 <| And.intro @ren.eq_4 <| And.intro @ren.eq_5 <| And.intro @ren.eq_6 <| And.intro @ren.eq_7 <| And.intro @ren.eq_8 <| @ren.eq_9
theorem zE4 : type_of% (And.intro @zipE.eq_1 <| And.intro @zipE.eq_2 <| And.intro @Go.Op.operands.eq_1 <| And.intro @Go.Op.operands.eq_2 <| And.intro @Go.Op.operands.eq_3 <| And.intro @Go.Op.operands.eq_4 <| And.intro @Go.Op.operands.eq_5 <| And.intro @Go.Op.operands.eq_6 <| And.intro @Go.Op.operands.eq_7 <| And.intro @Go.Op.operands.eq_8 <| And.intro @Go.Op.operands.eq_9 <| And.intro @Go.Op.operands.eq_10 <| And.intro @Go.Op.operands.eq_11 <| And.intro @Go.Op.operands.eq_12 <| And.intro @Go.Op.operands.eq_13 <| And.intro @Go.Op.operands.eq_14 <| And.intro @Go.Op.operands.eq_15 <| And.intro @Go.Op.operands.eq_16 <| And.intro @Go.Op.operands.eq_17 <| And.intro @Go.Op.operands.eq_18 <| And.intro @Go.Op.operands.eq_19 <| And.intro @Go.Op.operands.eq_20 <| And.intro @Go.Op.operands.eq_21 <| And.intro @Go.Op.operands.eq_22 <| And.intro @Go.Op.operands.eq_23 <| And.intro @Go.Op.operands.eq_24 <| And.intro @Go.Op.operands.eq_25 <| And.intro @Go.Op.operands.eq_26 <| And.intro @Go.Op.operands.eq_27 <| And.intro @Go.Op.operands.eq_28 <| And.intro @Go.Op.operands.eq_29 <| And.intro @Go.Op.operands.eq_30 <| And.intro @Go.Op.operands.eq_31 <| And.intro @Go.Op.operands.eq_32 <| And.intro @Go.Op.operands.eq_33 <| And.intro @Go.Op.operands.eq_34 <| And.intro @Go.Op.operands.eq_35 <| And.intro @Go.Op.operands.eq_36 <| And.intro @Go.Op.operands.eq_37 <| And.intro @Go.Op.operands.eq_38 <| And.intro @Go.Op.operands.eq_39 <| And.intro @Go.Op.operands.eq_40 <| And.intro @Go.Op.operands.eq_41 <| And.intro @Go.Op.operands.eq_42 <| And.intro @Go.Op.operands.eq_43 <| And.intro @Go.Call.operands.eq_1 <| And.intro @nbeq <| And.intro @nble <| And.intro @nblt <| And.intro @z5 <| And.intro @z6 <| And.intro @z7 <| And.intro @z8 <| And.intro @z9 <| And.intro @z10 <| And.intro @z11 <| And.intro @z12 <| And.intro @z13 <| And.intro @z14 <| And.intro @z15 <| And.intro @z16 <| And.intro @z17 <| And.intro @z18 <| And.intro @z19.{0} <| And.intro @z20.{0} <| And.intro @z21.{0} <| And.intro @z22.{0, 0} <| And.intro @z23.{0, 0} <| And.intro @z24.{0} <| And.intro @z25.{0} <| And.intro @z26.{0, 0} <| @z27.{0, 0}) := And.intro @zipE.eq_1 <| And.intro @zipE.eq_2 <| And.intro @Go.Op.operands.eq_1 <| And.intro @Go.Op.operands.eq_2 <| And.intro @Go.Op.operands.eq_3 <| And.intro @Go.Op.operands.eq_4 <| And.intro @Go.Op.operands.eq_5 <| And.intro @Go.Op.operands.eq_6 <| And.intro @Go.Op.operands.eq_7 <| And.intro @Go.Op.operands.eq_8 <| And.intro @Go.Op.operands.eq_9 <| And.intro @Go.Op.operands.eq_10 <| And.intro @Go.Op.operands.eq_11 <| And.intro @Go.Op.operands.eq_12 <| And.intro @Go.Op.operands.eq_13 <| And.intro @Go.Op.operands.eq_14 <| And.intro @Go.Op.operands.eq_15 <| And.intro @Go.Op.operands.eq_16 <| And.intro @Go.Op.operands.eq_17 <| And.intro @Go.Op.operands.eq_18 <| And.intro @Go.Op.operands.eq_19 <| And.intro @Go.Op.operands.eq_20 <| And.intro @Go.Op.operands.eq_21 <| And.intro @Go.Op.operands.eq_22 <| And.intro @Go.Op.operands.eq_23 <| And.intro @Go.Op.operands.eq_24 <| And.intro @Go.Op.operands.eq_25 <| And.intro @Go.Op.operands.eq_26 <| And.intro @Go.Op.operands.eq_27 <| And.intro @Go.Op.operands.eq_28 <| And.intro @Go.Op.operands.eq_29 <| And.intro @Go.Op.operands.eq_30 <| And.intro @Go.Op.operands.eq_31 <| And.intro @Go.Op.operands.eq_32 <| And.intro @Go.Op.operands.eq_33 <| And.intro @Go.Op.operands.eq_34 <| And.intro @Go.Op.operands.eq_35 <| And.intro @Go.Op.operands.eq_36 <| And.intro @Go.Op.operands.eq_37 <| And.intro @Go.Op.operands.eq_38 <| And.intro @Go.Op.operands.eq_39 <| And.intro @Go.Op.operands.eq_40 <| And.intro @Go.Op.operands.eq_41 <| And.intro @Go.Op.operands.eq_42 <| And.intro @Go.Op.operands.eq_43 <| And.intro @Go.Call.operands.eq_1 <| And.intro @nbeq <| And.intro @nble <| And.intro @nblt <| And.intro @z5 <| And.intro @z6 <| And.intro @z7 <| And.intro @z8 <| And.intro @z9 <| And.intro @z10 <| And.intro @z11 <| And.intro @z12 <| And.intro @z13 <| And.intro @z14 <| And.intro @z15 <| And.intro @z16 <| And.intro @z17 <| And.intro @z18 <| And.intro @z19.{0} <| And.intro @z20.{0} <| And.intro @z21.{0} <| And.intro @z22.{0, 0} <| And.intro @z23.{0, 0} <| And.intro @z24.{0} <| And.intro @z25.{0} <| And.intro @z26.{0, 0} <| @z27.{0, 0}
theorem zE5 : type_of% (And.intro @z28.{0} <| And.intro @z29.{0} <| And.intro @z30.{0} <| And.intro @z31.{0} <| And.intro @z32.{0} <| And.intro @z33.{0} <| And.intro @z34.{0} <| And.intro @z35.{0} <| And.intro @z36 <| And.intro @z37 <| And.intro @imp_self <| And.intro @EO.mk.injEq <| And.intro @z39 <| And.intro @z40 <| And.intro @z41.{0} <| And.intro @z42.{0} <| And.intro @z43 <| And.intro @z44 <| And.intro @z45 <| And.intro @z46 <| And.intro @z47 <| And.intro @z48 <| And.intro @z49 <| And.intro @z50 <| And.intro @ne_eq.{1} <| And.intro @z51 <| And.intro @z52 <| And.intro @z53 <| And.intro @z54 <| And.intro @z55 <| And.intro @z56.{0} <| And.intro @z57.{0} <| And.intro @inI.eq_1 <| And.intro @evRes.eq_1 <| And.intro @evRes.eq_2 <| And.intro @evRes.eq_3 <| And.intro @resV.eq_1 <| And.intro @resV.eq_2 <| And.intro @mkL.eq_1 <| And.intro @mkL.eq_2 <| And.intro @ltK.eq_1 <| And.intro @rhoL.eq_1 <| And.intro @rhoL.eq_2 <| And.intro @leE.eq_1 <| And.intro @leE.eq_2 <| And.intro @leR.eq_1 <| And.intro @leR.eq_2 <| And.intro @leR.eq_3 <| And.intro @menB.eq_1 <| And.intro @menB.eq_2 <| And.intro @menB.eq_3 <| And.intro @menB.eq_4 <| And.intro @menB.eq_5 <| And.intro @menE.eq_1 <| And.intro @menE.eq_2 <| And.intro @fzA.eq_1 <| And.intro @fzA.eq_2 <| And.intro @fzA.eq_3 <| And.intro @fzA.eq_4 <| And.intro @fzA.eq_5 <| And.intro @fzA.eq_6 <| And.intro @fzA.eq_7 <| And.intro @fzE.eq_1 <| And.intro @fzE.eq_2 <| And.intro @fzB.eq_1 <| And.intro @fzB.eq_2 <| And.intro @fzR.eq_1 <| And.intro @fzR.eq_2 <| @fzR.eq_3) := And.intro @z28.{0} <| And.intro @z29.{0} <| And.intro @z30.{0} <| And.intro @z31.{0} <| And.intro @z32.{0} <| And.intro @z33.{0} <| And.intro @z34.{0} <| And.intro @z35.{0} <| And.intro @z36 <| And.intro @z37 <| And.intro @imp_self <| And.intro @EO.mk.injEq <| And.intro @z39 <| And.intro @z40 <| And.intro @z41.{0} <| And.intro @z42.{0} <| And.intro @z43 <| And.intro @z44 <| And.intro @z45 <| And.intro @z46 <| And.intro @z47 <| And.intro @z48 <| And.intro @z49 <| And.intro @z50 <| And.intro @ne_eq.{1} <| And.intro @z51 <| And.intro @z52 <| And.intro @z53 <| And.intro @z54 <| And.intro @z55 <| And.intro @z56.{0} <| And.intro @z57.{0} <| And.intro @inI.eq_1 <| And.intro @evRes.eq_1 <| And.intro @evRes.eq_2 <| And.intro @evRes.eq_3 <| And.intro @resV.eq_1 <| And.intro @resV.eq_2 <| And.intro @mkL.eq_1 <| And.intro @mkL.eq_2 <| And.intro @ltK.eq_1 <| And.intro @rhoL.eq_1 <| And.intro @rhoL.eq_2 <| And.intro @leE.eq_1 <| And.intro @leE.eq_2 <| And.intro @leR.eq_1 <| And.intro @leR.eq_2 <| And.intro @leR.eq_3 <| And.intro @menB.eq_1 <| And.intro @menB.eq_2 <| And.intro @menB.eq_3 <| And.intro @menB.eq_4 <| And.intro @menB.eq_5 <| And.intro @menE.eq_1 <| And.intro @menE.eq_2 <| And.intro @fzA.eq_1 <| And.intro @fzA.eq_2 <| And.intro @fzA.eq_3 <| And.intro @fzA.eq_4 <| And.intro @fzA.eq_5 <| And.intro @fzA.eq_6 <| And.intro @fzA.eq_7 <| And.intro @fzE.eq_1 <| And.intro @fzE.eq_2 <| And.intro @fzB.eq_1 <| And.intro @fzB.eq_2 <| And.intro @fzR.eq_1 <| And.intro @fzR.eq_2 <| @fzR.eq_3
theorem zI : type_of% (And.intro @AV.int.injEq <| And.intro @AV.bool.injEq <| And.intro @AV.roI.injEq <| And.intro @AV.roB.injEq <| And.intro @AV.roII.injEq <| And.intro @AV.rop.injEq <| And.intro @AV.agg.injEq <| And.intro @AV.tup.injEq <| And.intro @AV.cons.injEq <| And.intro @AV.own.injEq <| And.intro @AV.whn.injEq <| And.intro @Blk.ints.injEq <| And.intro @Blk.bools.injEq <| And.intro @Blk.rows.injEq <| And.intro @Blk.rowsR.injEq <| And.intro @Blk.box.injEq <| And.intro @Option.some.injEq.{0} <| And.intro @Int.natCast_add <| And.intro @Int.natCast_one <| @Int.cast_ofNat_Int) := And.intro @AV.int.injEq <| And.intro @AV.bool.injEq <| And.intro @AV.roI.injEq <| And.intro @AV.roB.injEq <| And.intro @AV.roII.injEq <| And.intro @AV.rop.injEq <| And.intro @AV.agg.injEq <| And.intro @AV.tup.injEq <| And.intro @AV.cons.injEq <| And.intro @AV.own.injEq <| And.intro @AV.whn.injEq <| And.intro @Blk.ints.injEq <| And.intro @Blk.bools.injEq <| And.intro @Blk.rows.injEq <| And.intro @Blk.rowsR.injEq <| And.intro @Blk.box.injEq <| And.intro @Option.some.injEq.{0} <| And.intro @Int.natCast_add <| And.intro @Int.natCast_one <| @Int.cast_ofNat_Int
theorem zH : type_of% (And.intro @Bool.and_eq_false_iff <| And.intro @decide_eq_true_eq <| And.intro @decide_eq_false_iff_not <| And.intro @Bool.or_eq_true <| And.intro @Bool.or_eq_false_iff <| And.intro @Bool.and_eq_true <| And.intro @Bool.not_eq_true' <| And.intro @Bool.not_eq_false' <| And.intro @not_or <| And.intro @Int.not_lt <| @Int.not_le) := And.intro @Bool.and_eq_false_iff <| And.intro @decide_eq_true_eq <| And.intro @decide_eq_false_iff_not <| And.intro @Bool.or_eq_true <| And.intro @Bool.or_eq_false_iff <| And.intro @Bool.and_eq_true <| And.intro @Bool.not_eq_true' <| And.intro @Bool.not_eq_false' <| And.intro @not_or <| And.intro @Int.not_lt <| @Int.not_le
end Go.Proofs.Ytbcghiagomkadaa.Cal
namespace Go.Proofs.Ytbcghiagomkadaa.Cal
open Go
structure Gm where
  own : List Int
  pri : List Int
  nxt : List (List Int)
def gmA (g : Gm) : AV := .agg (.cons (.roI g.own) (.cons (.roI g.pri) (.cons (.roII g.nxt) .nil)))
theorem noSp : SpOK Try.prog (fun _ => none) := fun f S h => by cases h
end Go.Proofs.Ytbcghiagomkadaa.Cal
namespace Go.Proofs.Ytbcghiagomkadaa.Cal
open Go
def tot (x : List (List Int)) (i : Nat) : Int := ((x.take i).map fun l => (l.length : Int)).sum
def few (n m : Int) (g : Gm) : Bool := !(decide (n < (g.own.length : Int)) || decide (n < (g.pri.length : Int)) || decide (n < (g.nxt.length : Int))) && decide (tot g.nxt g.nxt.length ≤ m)
def fewS : Spec
  | [.int .i64 n, .int .i64 m, .agg (.cons (.roI o) (.cons (.roI p) (.cons (.roII x) .nil)))] => some ⟨n ≤ 1000, .bool (few n m ⟨o, p, x⟩), none⟩
  | _ => none
theorem tot_succ {x : List (List Int)} {i : Nat} (h : i < x.length) : tot x (i + 1) = tot x i + (x.getD i []).length := by
  unfold tot
  rw [List.take_add_one, List.getElem?_eq_getElem h]
  rw [List.map_append, List.sum_append]
  simp [List.getD_eq_getElem?_getD, List.getElem?_eq_getElem h]
theorem tot_le {x : List (List Int)} (hx : ∀ j, j < x.length → (x.getD j []).length ≤ lim) : ∀ i, i ≤ x.length → 0 ≤ tot x i ∧ tot x i ≤ i * (lim : Int) := by
  intro i
  induction i with
  | zero => intro _; simp [tot]
  | succ i ih =>
    intro hi
    have := ih (by omega)
    have h2 := hx i (by omega)
    rw [tot_succ (by omega)]
    push_cast
    rw [Int.add_mul]
    omega
set_option maxRecDepth 4000 in
set_option maxHeartbeats 4000000 in
theorem few_ok : FSpec Try.prog 8 fewS := by
  refine Zba htb (fn := Try.f8) (by kernel_rfl) (by kernel_rfl) rfl (fun args r hS => ?_) (fun args r hS hob hl => ?_)
  · unfold fewS at hS; split at hS <;> first | (cases hS; done) | (cases hS; exact Nat.le_of_ble_eq_true rfl)
  unfold fewS at hS
  split at hS
  case h_2 => cases hS
  rename_i n m o p x
  simp only [Option.some.injEq] at hS
  subst hS
  simp only [lenP, mkL, lim] at hl
  dsimp only at hob
  repeat' first
    | with_reducible first | refine Zas ?_ | refine Zao ?_ | refine Zac ?_ | refine Zad ?_ | refine Zai ?_ | refine Zaq ?_ | refine Zah ?_ | refine Zak ?_ | refine Zar ?_ | refine Zat ?_ | refine Zap ?_ | refine Zam ?_ | refine Zaa ?_ | refine Zae ?_ | refine Zab ?_ | refine Zal ?_
    | ((with_reducible refine Zaj ?_ ?_); exact rfl)
    | ((with_reducible refine Zau ?_); refine Zan rfl ?_ ?_ <;> intro hb <;> (try simp only [zH] at hb))
    | ((with_reducible refine Za0 ?_); (first | refine Zaf htb hmz noSp (fun _ => false) rfl rfl ?_ | refine Zag hmo htb hmz noSp (fun _ => false) rfl rfl (by kernel_rfl) ?_); intro m' e' l' ob h; simp only [zE0, zE1, zE2, zE3, zE4, zE5, evp, evx, ev1, evLoad, evStore, evBin, isBoolK, forall_const, z38, tb, Nat.reduceAdd, Nat.reduceSub, Nat.reduceMul, Nat.reduceEqDiff, Nat.reduceLeDiff, Nat.reduceLT, Nat.reduceBEq, Nat.reduceBNe, ↓reduceIte, reduceIte] at h; obtain ⟨rfl, rfl, rfl, rfl⟩ := h; refine ⟨?_, ?_⟩)
    | ((with_reducible refine Ob.mk ?_); first | exact trivial | (intros; omega) | ((repeat' first | apply And.intro | (intro hg; have hg' := hg; try simp only [zH] at hg')) <;> first | assumption | omega | (simp only [zH]; omega)))
  · refine Zay rfl rfl (Zaw rfl ?_ rfl)
    show AV.bool false = AV.bool _
    simp [few]; omega
  · obtain ⟨_, _, ⟨_, _, ⟨hx, hxx⟩, _⟩, _⟩ := hl
    refine Za1 (τ := Nat) (fun i => i ≤ x.length) (fun i => ⟨22, [(32, .int .i64 i), (7, .int .i64 (tot x i)), (30, .roII x), (31, .int .i64 x.length), (0, .int .i64 n), (1, .int .i64 m), (5, .rop (.agg (.cons (.roI o) (.cons (.roI p) (.cons (.roII x) .nil)))))], [], []⟩) (fun i => x.length - i) 0 [] ⟨rfl, by simp [zE0, zE1, zE2, zE3, zE4, zE5, evp, evx, ev1, evLoad, evStore, evBin, isBoolK, forall_const, z38, tb, Nat.reduceAdd, Nat.reduceSub, Nat.reduceMul, Nat.reduceEqDiff, Nat.reduceLeDiff, Nat.reduceLT, Nat.reduceBEq, Nat.reduceBNe, ↓reduceIte, reduceIte, tot], by simp only [zE0, zE1, zE2, zE3, zE4, zE5, evp, evx, ev1, evLoad, evStore, evBin, isBoolK, forall_const, z38, tb, Nat.reduceAdd, Nat.reduceSub, Nat.reduceMul, Nat.reduceEqDiff, Nat.reduceLeDiff, Nat.reduceLT, Nat.reduceBEq, Nat.reduceBNe, ↓reduceIte, reduceIte]⟩ (by omega) ?_
    intro i hi
    have ht := tot_le hxx i hi
    simp only [lim] at ht
    repeat' first
      | with_reducible first | refine Zas ?_ | refine Zao ?_ | refine Zac ?_ | refine Zad ?_ | refine Zai ?_ | refine Zaq ?_ | refine Zah ?_ | refine Zak ?_ | refine Zar ?_ | refine Zat ?_ | refine Zap ?_ | refine Zam ?_ | refine Zaa ?_ | refine Zae ?_ | refine Zab ?_ | refine Zal ?_
      | ((with_reducible refine Zaj ?_ ?_); exact rfl)
      | ((with_reducible refine Zau ?_); refine Zan rfl ?_ ?_ <;> intro hb <;> (try simp only [zH] at hb))
      | ((with_reducible refine Za0 ?_); (first | refine Zaf htb hmz noSp (fun _ => false) rfl rfl ?_ | refine Zag hmo htb hmz noSp (fun _ => false) rfl rfl (by kernel_rfl) ?_); intro m' e' l' ob h; simp only [zE0, zE1, zE2, zE3, zE4, zE5, evp, evx, ev1, evLoad, evStore, evBin, isBoolK, forall_const, z38, tb, Nat.reduceAdd, Nat.reduceSub, Nat.reduceMul, Nat.reduceEqDiff, Nat.reduceLeDiff, Nat.reduceLT, Nat.reduceBEq, Nat.reduceBNe, ↓reduceIte, reduceIte] at h; obtain ⟨rfl, rfl, rfl, rfl⟩ := h; refine ⟨?_, ?_⟩)
      | ((with_reducible refine Ob.mk ?_); first | exact trivial | (intros; omega) | ((repeat' first | apply And.intro | (intro hg; have hg' := hg; try simp only [zH] at hg')) <;> first | assumption | omega | (simp only [zH]; omega)))
    · have h1 := hxx i (by omega)
      constructor <;> omega
    · refine back (i + 1) [] ?_ (by omega) (by omega)
      (refine ⟨rfl, ?_, ?_⟩ <;> simp only [zE0, zE1, zE2, zE3, zE4, zE5, evp, evx, ev1, evLoad, evStore, evBin, isBoolK, forall_const, z38, tb, Nat.reduceAdd, Nat.reduceSub, Nat.reduceMul, Nat.reduceEqDiff, Nat.reduceLeDiff, Nat.reduceLT, Nat.reduceBEq, Nat.reduceBNe, ↓reduceIte, reduceIte, zI])
      rw [tot_succ (by omega)]
    · refine Zay rfl rfl (Zaw rfl ?_ rfl)
      show AV.bool (decide (tot x i ≤ m)) = AV.bool _
      have : i = x.length := by omega
      subst this
      simp [few]; omega
theorem ext0 {a b : List Int} (h1 : a.length = b.length) (h2 : ∀ j, j < a.length → a.getD j 0 = b.getD j 0) : a = b := by
  refine List.ext_getElem h1 fun j hj hj' => ?_
  have := h2 j hj
  simpa [List.getD_eq_getElem?_getD, hj, hj'] using this
end Go.Proofs.Ytbcghiagomkadaa.Cal
namespace Go.Proofs.Ytbcghiagomkadaa.Cal
open Go
def idxI (a : List Int) (v : Int) : Int := if v ∈ a then (a.idxOf v : Int) else -1
def indexS : Spec
  | [.roI a, .int .i64 v] => some ⟨True, .int .i64 (idxI a v), none⟩
  | _ => none
def containsS : Spec
  | [.roI a, .int .i64 v] => some ⟨True, .bool (decide (v ∈ a)), none⟩
  | _ => none
theorem not_mem_of {a : List Int} {v : Int} (h : ∀ j, j < a.length → ¬ v = a.getD j 0) : v ∉ a := fun hm => by
  obtain ⟨j, hj, e⟩ := List.getElem_of_mem hm
  exact h j hj (by simp [List.getD_eq_getElem?_getD, hj, e])
theorem Zgh {a : List Int} {j : Nat} (h : j < a.length) : a.getD j 0 ∈ a := by simp [List.getD_eq_getElem?_getD, h]
theorem idxOf_first {v : Int} : ∀ {a : List Int} {i : Nat}, i < a.length → v = a.getD i 0 → (∀ j, j < i → ¬ v = a.getD j 0) → a.idxOf v = i := by
  intro a
  induction a with
  | nil => intro i hi; simp at hi
  | cons x t ih =>
    intro i hi hv h
    cases i with
    | zero =>
      have : v = x := by simpa using hv
      subst this; simp
    | succ i =>
      have hne : x ≠ v := fun e => h 0 (by omega) (by simp [e])
      rw [List.idxOf_cons, show (x == v) = false from by simp [hne], cond_false, ih (by simpa using hi) (by simpa using hv) (fun j hj => by have := h (j + 1) (by omega); simpa using this)]
set_option maxRecDepth 4000 in
set_option maxHeartbeats 4000000 in
theorem index_ok : FSpec Try.prog 56 indexS := by
  refine Zba htb (fn := Try.f56) (by kernel_rfl) (by kernel_rfl) rfl (fun args r hS => ?_) (fun args r hS hob hl => ?_)
  · unfold indexS at hS; split at hS <;> first | (cases hS; done) | (cases hS; exact Nat.le_of_ble_eq_true rfl)
  unfold indexS at hS
  split at hS
  case h_2 => cases hS
  rename_i a v
  simp only [Option.some.injEq] at hS
  subst hS
  simp only [lenP, mkL, lim] at hl
  dsimp only at hob
  repeat' first
    | with_reducible first | refine Zas ?_ | refine Zao ?_ | refine Zac ?_ | refine Zad ?_ | refine Zai ?_ | refine Zaq ?_ | refine Zah ?_ | refine Zak ?_ | refine Zar ?_ | refine Zat ?_ | refine Zap ?_ | refine Zam ?_ | refine Zaa ?_ | refine Zae ?_ | refine Zab ?_ | refine Zal ?_
    | ((with_reducible refine Zaj ?_ ?_); exact rfl)
    | ((with_reducible refine Zau ?_); refine Zan rfl ?_ ?_ <;> intro hb <;> (try simp only [zH] at hb))
    | ((with_reducible refine Za0 ?_); (first | refine Zaf htb hmz noSp (fun _ => false) rfl rfl ?_ | refine Zag hmo htb hmz noSp (fun _ => false) rfl rfl (by kernel_rfl) ?_); intro m' e' l' ob h; simp only [zE0, zE1, zE2, zE3, zE4, zE5, evp, evx, ev1, evLoad, evStore, evBin, isBoolK, forall_const, z38, tb, Nat.reduceAdd, Nat.reduceSub, Nat.reduceMul, Nat.reduceEqDiff, Nat.reduceLeDiff, Nat.reduceLT, Nat.reduceBEq, Nat.reduceBNe, ↓reduceIte, reduceIte] at h; obtain ⟨rfl, rfl, rfl, rfl⟩ := h; refine ⟨?_, ?_⟩)
    | ((with_reducible refine Ob.mk ?_); first | exact trivial | (intros; omega) | ((repeat' first | apply And.intro | (intro hg; have hg' := hg; try simp only [zH] at hg')) <;> first | assumption | omega | (simp only [zH]; omega)))
  refine Za1 (τ := Nat) (fun i => i ≤ a.length ∧ ∀ j, j < i → ¬ v = a.getD j 0) (fun i => ⟨4, [(8, .int .i64 i), (7, .int .i64 a.length), (0, .roI a), (1, .int .i64 v)], [], []⟩) (fun i => a.length - i) 0 [] ⟨rfl, by simp [zE0, zE1, zE2, zE3, zE4, zE5, evp, evx, ev1, evLoad, evStore, evBin, isBoolK, forall_const, z38, tb, Nat.reduceAdd, Nat.reduceSub, Nat.reduceMul, Nat.reduceEqDiff, Nat.reduceLeDiff, Nat.reduceLT, Nat.reduceBEq, Nat.reduceBNe, ↓reduceIte, reduceIte], by simp only [zE0, zE1, zE2, zE3, zE4, zE5, evp, evx, ev1, evLoad, evStore, evBin, isBoolK, forall_const, z38, tb, Nat.reduceAdd, Nat.reduceSub, Nat.reduceMul, Nat.reduceEqDiff, Nat.reduceLeDiff, Nat.reduceLT, Nat.reduceBEq, Nat.reduceBNe, ↓reduceIte, reduceIte]⟩ ⟨by omega, by omega⟩ ?_
  rintro i ⟨hi, hj⟩
  repeat' first
    | with_reducible first | refine Zas ?_ | refine Zao ?_ | refine Zac ?_ | refine Zad ?_ | refine Zai ?_ | refine Zaq ?_ | refine Zah ?_ | refine Zak ?_ | refine Zar ?_ | refine Zat ?_ | refine Zap ?_ | refine Zam ?_ | refine Zaa ?_ | refine Zae ?_ | refine Zab ?_ | refine Zal ?_
    | ((with_reducible refine Zaj ?_ ?_); exact rfl)
    | ((with_reducible refine Zau ?_); refine Zan rfl ?_ ?_ <;> intro hb <;> (try simp only [zH] at hb))
    | ((with_reducible refine Za0 ?_); (first | refine Zaf htb hmz noSp (fun _ => false) rfl rfl ?_ | refine Zag hmo htb hmz noSp (fun _ => false) rfl rfl (by kernel_rfl) ?_); intro m' e' l' ob h; simp only [zE0, zE1, zE2, zE3, zE4, zE5, evp, evx, ev1, evLoad, evStore, evBin, isBoolK, forall_const, z38, tb, Nat.reduceAdd, Nat.reduceSub, Nat.reduceMul, Nat.reduceEqDiff, Nat.reduceLeDiff, Nat.reduceLT, Nat.reduceBEq, Nat.reduceBNe, ↓reduceIte, reduceIte] at h; obtain ⟨rfl, rfl, rfl, rfl⟩ := h; refine ⟨?_, ?_⟩)
    | ((with_reducible refine Ob.mk ?_); first | exact trivial | (intros; omega) | ((repeat' first | apply And.intro | (intro hg; have hg' := hg; try simp only [zH] at hg')) <;> first | assumption | omega | (simp only [zH]; omega)))
  · refine Zay rfl rfl (Zaw rfl ?_ rfl)
    show AV.int .i64 i = AV.int .i64 (idxI a v)
    rw [idxI, if_pos (hb ▸ Zgh (by omega)), idxOf_first (by omega) hb hj]
  · refine back (i + 1) [] ?_ ⟨by omega, fun j hj' => ?_⟩ (by omega)
    · (refine ⟨rfl, ?_, ?_⟩ <;> simp only [zE0, zE1, zE2, zE3, zE4, zE5, evp, evx, ev1, evLoad, evStore, evBin, isBoolK, forall_const, z38, tb, Nat.reduceAdd, Nat.reduceSub, Nat.reduceMul, Nat.reduceEqDiff, Nat.reduceLeDiff, Nat.reduceLT, Nat.reduceBEq, Nat.reduceBNe, ↓reduceIte, reduceIte, zI])
    · rcases Nat.lt_succ_iff_lt_or_eq.1 hj' with h | rfl
      · exact hj j h
      · exact hb
  · refine Zay rfl rfl (Zaw rfl ?_ rfl)
    show AV.int .i64 (-1) = AV.int .i64 (idxI a v)
    rw [idxI, if_neg (not_mem_of fun j hj' => hj j (by omega))]
def spIdx : Nat → Option Spec
  | 56 => some indexS
  | _ => none
theorem spIdx_ok : SpOK Try.prog spIdx := by
  intro f S h
  unfold spIdx at h
  split at h
  · cases h; exact index_ok
  · cases h
set_option maxRecDepth 4000 in
set_option maxHeartbeats 4000000 in
theorem contains_ok : FSpec Try.prog 46 containsS := by
  refine Zba htb (fn := Try.f46) (by kernel_rfl) (by kernel_rfl) rfl (fun args r hS => ?_) (fun args r hS hob hl => ?_)
  · unfold containsS at hS; split at hS <;> first | (cases hS; done) | (cases hS; exact Nat.le_of_ble_eq_true rfl)
  unfold containsS at hS
  split at hS
  case h_2 => cases hS
  rename_i a v
  simp only [Option.some.injEq] at hS
  subst hS
  simp only [lenP, mkL, lim] at hl
  dsimp only at hob
  repeat' first
    | with_reducible first | refine Zas ?_ | refine Zao ?_ | refine Zac ?_ | refine Zad ?_ | refine Zai ?_ | refine Zaq ?_ | refine Zah ?_ | refine Zak ?_ | refine Zar ?_ | refine Zat ?_ | refine Zap ?_ | refine Zam ?_ | refine Zaa ?_ | refine Zae ?_ | refine Zab ?_ | refine Zal ?_
    | ((with_reducible refine Zaj ?_ ?_); exact rfl)
    | ((with_reducible refine Zau ?_); refine Zan rfl ?_ ?_ <;> intro hb <;> (try simp only [zH] at hb))
    | ((with_reducible refine Za0 ?_); (first | refine Zaf htb hmz spIdx_ok (fun _ => false) rfl rfl ?_ | refine Zag hmo htb hmz spIdx_ok (fun _ => false) rfl rfl (by kernel_rfl) ?_); intro m' e' l' ob h; simp only [zE0, zE1, zE2, zE3, zE4, zE5, evp, evx, ev1, evLoad, evStore, evBin, isBoolK, forall_const, z38, tb, Nat.reduceAdd, Nat.reduceSub, Nat.reduceMul, Nat.reduceEqDiff, Nat.reduceLeDiff, Nat.reduceLT, Nat.reduceBEq, Nat.reduceBNe, ↓reduceIte, reduceIte, spIdx, indexS] at h; obtain ⟨rfl, rfl, rfl, rfl⟩ := h; refine ⟨?_, ?_⟩)
    | ((with_reducible refine Ob.mk ?_); first | exact trivial | (intros; omega) | ((repeat' first | apply And.intro | (intro hg; have hg' := hg; try simp only [zH] at hg')) <;> first | assumption | omega | (simp only [zH]; omega)))
  · refine Zay rfl rfl (Zaw rfl ?_ rfl)
    show AV.bool (decide (0 ≤ idxI a v)) = AV.bool (decide (v ∈ a))
    by_cases hm : v ∈ a
    · rw [idxI, if_pos hm]; simp [hm]
    · rw [idxI, if_neg hm]; simp [hm]
def cloneS : Spec
  | [.roI a] => some ⟨a.length ≤ 1000000000, .roI a, none⟩
  | _ => none
set_option maxRecDepth 4000 in
set_option maxHeartbeats 4000000 in
theorem clone_ok : FSpec Try.prog 32 cloneS := by
  refine Zba htb (fn := Try.f32) (by kernel_rfl) (by kernel_rfl) rfl (fun args r hS => ?_) (fun args r hS hob hl => ?_)
  · unfold cloneS at hS; split at hS <;> first | (cases hS; done) | (cases hS; exact Nat.le_of_ble_eq_true rfl)
  unfold cloneS at hS
  split at hS
  case h_2 => cases hS
  rename_i a
  simp only [Option.some.injEq] at hS
  subst hS
  simp only [lenP, mkL, lim] at hl
  dsimp only at hob
  refine Zas ?_
  first | (refine Zaf htb hmz noSp (fun _ => false) rfl rfl ?_; intro m' e' l' ob h; simp only [zE0, zE1, zE2, zE3, zE4, zE5, evp, evx, ev1, evLoad, evStore, evBin, isBoolK, forall_const, z38, tb, Nat.reduceAdd, Nat.reduceSub, Nat.reduceMul, Nat.reduceEqDiff, Nat.reduceLeDiff, Nat.reduceLT, Nat.reduceBEq, Nat.reduceBNe, ↓reduceIte, reduceIte] at h; obtain ⟨rfl, rfl, rfl, rfl⟩ := h; refine ⟨?_, ?_⟩)
        | (refine Zag hmo htb hmz noSp (fun _ => false) rfl rfl (by kernel_rfl) ?_; intro m' e' l' ob h; simp only [zE0, zE1, zE2, zE3, zE4, zE5, evp, evx, ev1, evLoad, evStore, evBin, isBoolK, forall_const, z38, tb, Nat.reduceAdd, Nat.reduceSub, Nat.reduceMul, Nat.reduceEqDiff, Nat.reduceLeDiff, Nat.reduceLT, Nat.reduceBEq, Nat.reduceBNe, ↓reduceIte, reduceIte] at h; obtain ⟨rfl, rfl, rfl, rfl⟩ := h; refine ⟨?_, ?_⟩)
  · trivial
  refine Zac (Zas (awp_nilq (xs := a) (by kernel_rfl : Try.prog.underlying 22 = some (.slice 3)) rfl rfl rfl rfl rfl ?_ ?_))
  · rintro rfl
    refine Zas ?_
    first | (refine Zaf htb hmz noSp (fun _ => false) rfl rfl ?_; intro m' e' l' ob h; simp only [zE0, zE1, zE2, zE3, zE4, zE5, evp, evx, ev1, evLoad, evStore, evBin, isBoolK, forall_const, z38, tb, Nat.reduceAdd, Nat.reduceSub, Nat.reduceMul, Nat.reduceEqDiff, Nat.reduceLeDiff, Nat.reduceLT, Nat.reduceBEq, Nat.reduceBNe, ↓reduceIte, reduceIte] at h; obtain ⟨rfl, rfl, rfl, rfl⟩ := h; refine ⟨?_, ?_⟩)
          | (refine Zag hmo htb hmz noSp (fun _ => false) rfl rfl (by kernel_rfl) ?_; intro m' e' l' ob h; simp only [zE0, zE1, zE2, zE3, zE4, zE5, evp, evx, ev1, evLoad, evStore, evBin, isBoolK, forall_const, z38, tb, Nat.reduceAdd, Nat.reduceSub, Nat.reduceMul, Nat.reduceEqDiff, Nat.reduceLeDiff, Nat.reduceLT, Nat.reduceBEq, Nat.reduceBNe, ↓reduceIte, reduceIte] at h; obtain ⟨rfl, rfl, rfl, rfl⟩ := h; refine ⟨?_, ?_⟩)
    · trivial
    refine Zac (awp_see 2 (.roI []) rfl (fun Z w ν y h => see_nil h) ?_)
    repeat' first
      | with_reducible first | refine Zas ?_ | refine Zao ?_ | refine Zac ?_ | refine Zad ?_ | refine Zai ?_ | refine Zaq ?_ | refine Zah ?_ | refine Zak ?_ | refine Zar ?_ | refine Zat ?_ | refine Zap ?_ | refine Zam ?_ | refine Zaa ?_ | refine Zae ?_ | refine Zab ?_ | refine Zal ?_
      | ((with_reducible refine Zaj ?_ ?_); exact rfl)
      | ((with_reducible refine Zau ?_); refine Zan rfl ?_ ?_ <;> intro hb <;> (try simp only [zH] at hb))
      | ((with_reducible refine Za0 ?_); (first | refine Zaf htb hmz noSp (fun _ => false) rfl rfl ?_ | refine Zag hmo htb hmz noSp (fun _ => false) rfl rfl (by kernel_rfl) ?_); intro m' e' l' ob h; simp only [zE0, zE1, zE2, zE3, zE4, zE5, evp, evx, ev1, evLoad, evStore, evBin, isBoolK, forall_const, z38, tb, Nat.reduceAdd, Nat.reduceSub, Nat.reduceMul, Nat.reduceEqDiff, Nat.reduceLeDiff, Nat.reduceLT, Nat.reduceBEq, Nat.reduceBNe, ↓reduceIte, reduceIte] at h; obtain ⟨rfl, rfl, rfl, rfl⟩ := h; refine ⟨?_, ?_⟩)
      | ((with_reducible refine Ob.mk ?_); first | exact trivial | (intros; omega) | ((repeat' first | apply And.intro | (intro hg; have hg' := hg; try simp only [zH] at hg')) <;> first | assumption | omega | (simp only [zH]; omega)))
    refine Zay rfl rfl (Zaw rfl ?_ rfl)
    rfl
  · refine Zap (Zac (Zas ?_))
    (refine Zaf htb hmz noSp (fun i => Nat.beq i 0) rfl rfl ?_; intro m' e' l' ob h; simp only [zE0, zE1, zE2, zE3, zE4, zE5, evp, evx, ev1, evLoad, evStore, evBin, isBoolK, forall_const, z38, tb, Nat.reduceAdd, Nat.reduceSub, Nat.reduceMul, Nat.reduceEqDiff, Nat.reduceLeDiff, Nat.reduceLT, Nat.reduceBEq, Nat.reduceBNe, ↓reduceIte, reduceIte] at h; obtain ⟨rfl, rfl, rfl, rfl⟩ := h; refine ⟨?_, ?_⟩)
    · refine Ob.mk ?_; omega
    refine Zac ?_
    refine Zbv 3 (.roI a) (by simp only [Zax, Za4, fzE, fzA, fzR, fzB, set1, nbeq, Nat.reduceEqDiff, decide_true, decide_false, ↓reduceIte, reduceIte, cond_true, cond_false, List.take_length, Option.some.injEq]; rfl) (by first | exact rfl | (refine ⟨?_, rfl⟩; first | rfl | (intros; rfl))) (by simp only [Zax, Za4, fzE, fzA, fzR, fzB, set1, nbeq, Nat.reduceEqDiff, decide_true, decide_false, ↓reduceIte, reduceIte, cond_true, cond_false, List.take_length, Option.some.injEq]; rfl) (by simp only [Zax, Za4, fzE, fzA, fzR, fzB, set1, nbeq, Nat.reduceEqDiff, decide_true, decide_false, ↓reduceIte, reduceIte, cond_true, cond_false, List.take_length, Option.some.injEq]; rfl) ?_
    repeat' first
      | with_reducible first | refine Zas ?_ | refine Zao ?_ | refine Zac ?_ | refine Zad ?_ | refine Zai ?_ | refine Zaq ?_ | refine Zah ?_ | refine Zak ?_ | refine Zar ?_ | refine Zat ?_ | refine Zap ?_ | refine Zam ?_ | refine Zaa ?_ | refine Zae ?_ | refine Zab ?_ | refine Zal ?_
      | ((with_reducible refine Zaj ?_ ?_); exact rfl)
      | ((with_reducible refine Zau ?_); refine Zan rfl ?_ ?_ <;> intro hb <;> (try simp only [zH] at hb))
      | ((with_reducible refine Za0 ?_); (first | refine Zaf htb hmz noSp (fun _ => false) rfl rfl ?_ | refine Zag hmo htb hmz noSp (fun _ => false) rfl rfl (by kernel_rfl) ?_); intro m' e' l' ob h; simp only [zE0, zE1, zE2, zE3, zE4, zE5, evp, evx, ev1, evLoad, evStore, evBin, isBoolK, forall_const, z38, tb, Nat.reduceAdd, Nat.reduceSub, Nat.reduceMul, Nat.reduceEqDiff, Nat.reduceLeDiff, Nat.reduceLT, Nat.reduceBEq, Nat.reduceBNe, ↓reduceIte, reduceIte] at h; obtain ⟨rfl, rfl, rfl, rfl⟩ := h; refine ⟨?_, ?_⟩)
      | ((with_reducible refine Ob.mk ?_); first | exact trivial | (intros; omega) | ((repeat' first | apply And.intro | (intro hg; have hg' := hg; try simp only [zH] at hg')) <;> first | assumption | omega | (simp only [zH]; omega)))
    refine Zay rfl rfl (Zaw rfl ?_ rfl)
    rfl
def hasS : Spec
  | [.roI a, .int .i64 v] => some ⟨True, .bool (decide (v ∈ a)), none⟩
  | _ => none
set_option maxRecDepth 4000 in
set_option maxHeartbeats 4000000 in
theorem has13_ok : FSpec Try.prog 34 hasS := by
  refine Zba htb (fn := Try.f34) (by kernel_rfl) (by kernel_rfl) rfl (fun args r hS => ?_) (fun args r hS hob hl => ?_)
  · unfold hasS at hS; split at hS <;> first | (cases hS; done) | (cases hS; exact Nat.le_of_ble_eq_true rfl)
  unfold hasS at hS
  split at hS
  case h_2 => cases hS
  rename_i a v
  simp only [Option.some.injEq] at hS
  subst hS
  simp only [lenP, mkL, lim] at hl
  dsimp only at hob
  repeat' first
    | with_reducible first | refine Zas ?_ | refine Zao ?_ | refine Zac ?_ | refine Zad ?_ | refine Zai ?_ | refine Zaq ?_ | refine Zah ?_ | refine Zak ?_ | refine Zar ?_ | refine Zat ?_ | refine Zap ?_ | refine Zam ?_ | refine Zaa ?_ | refine Zae ?_ | refine Zab ?_ | refine Zal ?_
    | ((with_reducible refine Zaj ?_ ?_); exact rfl)
    | ((with_reducible refine Zau ?_); refine Zan rfl ?_ ?_ <;> intro hb <;> (try simp only [zH] at hb))
    | ((with_reducible refine Za0 ?_); (first | refine Zaf htb hmz noSp (fun _ => false) rfl rfl ?_ | refine Zag hmo htb hmz noSp (fun _ => false) rfl rfl (by kernel_rfl) ?_); intro m' e' l' ob h; simp only [zE0, zE1, zE2, zE3, zE4, zE5, evp, evx, ev1, evLoad, evStore, evBin, isBoolK, forall_const, z38, tb, Nat.reduceAdd, Nat.reduceSub, Nat.reduceMul, Nat.reduceEqDiff, Nat.reduceLeDiff, Nat.reduceLT, Nat.reduceBEq, Nat.reduceBNe, ↓reduceIte, reduceIte] at h; obtain ⟨rfl, rfl, rfl, rfl⟩ := h; refine ⟨?_, ?_⟩)
    | ((with_reducible refine Ob.mk ?_); first | exact trivial | (intros; omega) | ((repeat' first | apply And.intro | (intro hg; have hg' := hg; try simp only [zH] at hg')) <;> first | assumption | omega | (simp only [zH]; omega)))
  refine Za1 (τ := Nat) (fun i => i ≤ a.length ∧ ∀ j, j < i → ¬ v = a.getD j 0) (fun i => ⟨4, [(9, .int .i64 i), (8, .int .i64 a.length), (7, .roI a), (0, .roI a), (1, .int .i64 v)], [], []⟩) (fun i => a.length - i) 0 [] ⟨rfl, by simp [zE0, zE1, zE2, zE3, zE4, zE5, evp, evx, ev1, evLoad, evStore, evBin, isBoolK, forall_const, z38, tb, Nat.reduceAdd, Nat.reduceSub, Nat.reduceMul, Nat.reduceEqDiff, Nat.reduceLeDiff, Nat.reduceLT, Nat.reduceBEq, Nat.reduceBNe, ↓reduceIte, reduceIte], by simp only [zE0, zE1, zE2, zE3, zE4, zE5, evp, evx, ev1, evLoad, evStore, evBin, isBoolK, forall_const, z38, tb, Nat.reduceAdd, Nat.reduceSub, Nat.reduceMul, Nat.reduceEqDiff, Nat.reduceLeDiff, Nat.reduceLT, Nat.reduceBEq, Nat.reduceBNe, ↓reduceIte, reduceIte]⟩ ⟨by omega, by omega⟩ ?_
  rintro i ⟨hi, hj⟩
  repeat' first
    | with_reducible first | refine Zas ?_ | refine Zao ?_ | refine Zac ?_ | refine Zad ?_ | refine Zai ?_ | refine Zaq ?_ | refine Zah ?_ | refine Zak ?_ | refine Zar ?_ | refine Zat ?_ | refine Zap ?_ | refine Zam ?_ | refine Zaa ?_ | refine Zae ?_ | refine Zab ?_ | refine Zal ?_
    | ((with_reducible refine Zaj ?_ ?_); exact rfl)
    | ((with_reducible refine Zau ?_); refine Zan rfl ?_ ?_ <;> intro hb <;> (try simp only [zH] at hb))
    | ((with_reducible refine Za0 ?_); (first | refine Zaf htb hmz noSp (fun _ => false) rfl rfl ?_ | refine Zag hmo htb hmz noSp (fun _ => false) rfl rfl (by kernel_rfl) ?_); intro m' e' l' ob h; simp only [zE0, zE1, zE2, zE3, zE4, zE5, evp, evx, ev1, evLoad, evStore, evBin, isBoolK, forall_const, z38, tb, Nat.reduceAdd, Nat.reduceSub, Nat.reduceMul, Nat.reduceEqDiff, Nat.reduceLeDiff, Nat.reduceLT, Nat.reduceBEq, Nat.reduceBNe, ↓reduceIte, reduceIte] at h; obtain ⟨rfl, rfl, rfl, rfl⟩ := h; refine ⟨?_, ?_⟩)
    | ((with_reducible refine Ob.mk ?_); first | exact trivial | (intros; omega) | ((repeat' first | apply And.intro | (intro hg; have hg' := hg; try simp only [zH] at hg')) <;> first | assumption | omega | (simp only [zH]; omega)))
  · refine Zay rfl rfl (Zaw rfl ?_ rfl)
    show AV.bool true = AV.bool (decide (v ∈ a))
    rw [decide_eq_true (hb ▸ Zgh (by omega))]
  · refine back (i + 1) [] ?_ ⟨by omega, fun j hj' => ?_⟩ (by omega)
    · (refine ⟨rfl, ?_, ?_⟩ <;> simp only [zE0, zE1, zE2, zE3, zE4, zE5, evp, evx, ev1, evLoad, evStore, evBin, isBoolK, forall_const, z38, tb, Nat.reduceAdd, Nat.reduceSub, Nat.reduceMul, Nat.reduceEqDiff, Nat.reduceLeDiff, Nat.reduceLT, Nat.reduceBEq, Nat.reduceBNe, ↓reduceIte, reduceIte, zI])
    · rcases Nat.lt_succ_iff_lt_or_eq.1 hj' with h | rfl
      · exact hj j h
      · exact fun e => hb e.symm
  · refine Zay rfl rfl (Zaw rfl ?_ rfl)
    show AV.bool false = AV.bool (decide (v ∈ a))
    rw [decide_eq_false (not_mem_of fun j hj' => hj j (by omega))]
end Go.Proofs.Ytbcghiagomkadaa.Cal
