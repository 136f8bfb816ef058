/- The proof, part Vf: Bnd, Bnw, TabA, SfA. -/
import Derived.Test.YtmhkkalbijbplaaGreatDoorVe
import Derived.Test.YtmhkkalbijbplaaGreatDoorChecked
import Derived.KernelRfl
set_option linter.unusedSimpArgs false
set_option linter.unusedVariables false
set_option maxRecDepth 100000
set_option maxHeartbeats 16000000
namespace Go.Proofs.YtmhkkalbijbplaaGreatDoor
open Go Go.Sx
def BBd:=PLift.up (And.intro (And.intro (And.intro (And.intro (And.intro (And.intro @Bool.and_true (And.intro @Bool.and_self @Bool.true_and)) (And.intro (And.intro
 @beq_self_eq_true.{0} @Blk.mk.injEq) (And.intro @List.cons.injEq.{0} @SV.int.injEq))) (And.intro (And.intro (And.intro @SV.bool.injEq @SV.tup.injEq) (And.intro
 @SV.agg.injEq @and_self)) (And.intro (And.intro @Ny @Nz) (And.intro @OA @iA)))) (And.intro (And.intro (And.intro (And.intro @nJ @KR)
 (And.intro @wrap64 @decide_true)) (And.intro (And.intro @decide_false @Int.cast_ofNat_Int) (And.intro @true_and @and_true))) (And.intro (And.intro (And.intro
 @false_and @and_false) (And.intro @List.getElem?_cons_zero.{0} @List.getElem?_cons_succ.{0})) (And.intro (And.intro @List.length_cons.{0} @List.length_nil.{0})
 (And.intro @List.append_nil.{0} @List.nil_append.{0}))))) (And.intro (And.intro (And.intro (And.intro @List.cons_append.{0} (And.intro @List.take_succ_cons.{0}
 @List.take_zero.{0})) (And.intro (And.intro @List.drop_succ_cons.{0} @List.drop_zero.{0}) (And.intro @List.take_nil.{0} @List.drop_nil.{0}))) (And.intro
 (And.intro (And.intro @List.reverse_cons.{0} @List.reverse_nil.{0}) (And.intro @List.map_cons.{0,0} @List.map_nil.{0,0})) (And.intro (And.intro @Nat.zero_add
 @Nat.add_zero) (And.intro @dN @cG)))) (And.intro (And.intro (And.intro (And.intro @N4 @cB) (And.intro @aW @Ha)) (And.intro (And.intro
 @Bool.not_true @Bool.not_false) (And.intro @eK @b6))) (And.intro (And.intro (And.intro @Cx @AG) (And.intro @N7 @Cy)) (And.intro
 (And.intro @N6 @KP) (And.intro @List.all_cons.{0} @List.all_nil.{0})))))) (And.intro (And.intro (And.intro (And.intro (And.intro @List.contains_cons.{0}
 (And.intro @List.contains_nil.{0} @Bool.or_false)) (And.intro (And.intro @Bool.or_self @Bool.false_or) (And.intro @Bool.true_or @Bool.or_true))) (And.intro
 (And.intro (And.intro @cC @dB) (And.intro @cK @i5)) (And.intro (And.intro @iW @mX) (And.intro @oC @N8)))) (And.intro
 (And.intro (And.intro (And.intro @oD @Fh) (And.intro @N9 @Na)) (And.intro (And.intro @Nb @Nc) (And.intro @H7 @Ej))) (And.intro
 (And.intro (And.intro @vG @Nd) (And.intro @Nf @vH)) (And.intro (And.intro @OB @OC) (And.intro @aC @DG))))) (And.intro
 (And.intro (And.intro (And.intro (And.intro @kG @uG) (And.intro @gC @List.getElem?_nil.{0})) (And.intro (And.intro @Option.getD_none.{0}
 @Option.getD_some.{0}) (And.intro @Nat.sub_zero @not_true_eq_false))) (And.intro (And.intro (And.intro @not_false_eq_true @Nat.le_refl) (And.intro @a9
 @qD)) (And.intro (And.intro @mZ @lG) (And.intro @m5 @lH)))) (And.intro (And.intro (And.intro (And.intro @m6 @kI) (And.intro @Ax
 @AM)) (And.intro (And.intro @aA @aX) (And.intro @Int.toNat_natCast @Nat.mul_one))) (And.intro (And.intro (And.intro @Option.some.injEq.{0}
 @Kind.own.injEq) (And.intro @List.take_length.{0} @List.not_mem_nil.{0})) (And.intro (And.intro @List.mem_cons.{0} @or_false) (And.intro @Nat.succ_ne_self
 @o4)))))))
theorem BB:type_of% BBd.down:=BBd.down
def PBd:=PLift.up (And.intro (And.intro (And.intro (And.intro (And.intro (And.intro @MI @AJ) (And.intro @mU @H6)) (And.intro (And.intro @TI @nU) (And.intro
 @B6 @Fj))) (And.intro (And.intro (And.intro @g8 @mL) (And.intro @nK @DA)) (And.intro (And.intro @J8 @Fl) (And.intro @H9
 @TJ)))) (And.intro (And.intro (And.intro (And.intro @KT @DB) (And.intro @Nh @Fm)) (And.intro (And.intro @TK @o3) (And.intro @Ni
 @fZ))) (And.intro (And.intro (And.intro @Fo @AH) (And.intro @Nj @TL)) (And.intro (And.intro @wS @gL) (And.intro @TM @MH)))))
 (And.intro (And.intro (And.intro (And.intro (And.intro @J9 @Nk) (And.intro @Nl @Fp)) (And.intro (And.intro @Nm @Aw) (And.intro @Nn
 @i6))) (And.intro (And.intro (And.intro @AI @CE) (And.intro @sJ @Np)) (And.intro (And.intro @WQ @WR) (And.intro @KU @Nq))))
 (And.intro (And.intro (And.intro (And.intro @Nr @TN) (And.intro @Nv @Ns)) (And.intro (And.intro @TO @KW) (And.intro @Nt @Nu)))
 (And.intro (And.intro (And.intro @Nw @sI) (And.intro @H8 @uE)) (And.intro (And.intro @Cz @eJ) (And.intro @iO (And.intro
 @gK @sL)))))))
theorem PB:type_of% PBd.down:=PBd.down
def BCd:=PLift.up (And.intro BB ( And.intro (And.intro (And.intro (And.intro (And.intro (And.intro @SV.flatL.eq_1 (And.intro @SV.flatL.eq_2 @SV.flat.eq_1)) (And.intro (And.intro @SV.flat.eq_2
 @SV.flat.eq_3) (And.intro @SV.flat.eq_4 @SV.flat.eq_5))) (And.intro (And.intro (And.intro @SV.flat.eq_6 @SV.flat.eq_7) (And.intro @g9.eq_1 @g9.eq_2))
 (And.intro (And.intro @yP.eq_1 @yP.eq_2) (And.intro @wR.eq_1 @wR.eq_2)))) (And.intro (And.intro (And.intro @gV.eq_1 (And.intro @gV.eq_2
 @Opd.ev.eq_1)) (And.intro (And.intro @Opd.ev.eq_2 @Opd.ev.eq_3) (And.intro @Opd.ev.eq_4 @get.eq_1))) (And.intro (And.intro (And.intro @get.eq_2 @put.eq_1)
 (And.intro @bQ.eq_1 @bQ.eq_2)) (And.intro (And.intro @fF.eq_1 @fF.eq_2) (And.intro @aU.eq_1 @aU.eq_2))))) (And.intro (And.intro (And.intro (And.intro
 @iZ.eq_1 (And.intro @iZ.eq_2 @fH.eq_1)) (And.intro (And.intro @fH.eq_2 @bM.eq_1) (And.intro @bM.eq_2 @jJ.eq_1))) (And.intro (And.intro (And.intro
 @jJ.eq_2 @eD.eq_1) (And.intro @eD.eq_2 @dW.eq_1)) (And.intro (And.intro @dW.eq_2 @rd.eq_1) (And.intro @rd.eq_2 @rm.eq_1)))) (And.intro (And.intro
 (And.intro (And.intro @rm.eq_2 @SV.cells?.eq_1) (And.intro @SV.cells?.eq_2 @SV.one.eq_1)) (And.intro (And.intro @SV.one.eq_2 @SV.one.eq_3) (And.intro
 @SV.one.eq_4 @SV.one.eq_5))) (And.intro (And.intro (And.intro @dX.eq_1 @dX.eq_2) (And.intro @j5.eq_1 @j5.eq_2)) (And.intro (And.intro @hH.eq_1
 @hH.eq_2) (And.intro @hH.eq_3 @hH.eq_4)))))) (And.intro (And.intro (And.intro (And.intro (And.intro @hH.eq_5 (And.intro @hH.eq_6 @hH.eq_7))
 (And.intro (And.intro @hH.eq_8 @hH.eq_9) (And.intro @hH.eq_10 @hH.eq_11))) (And.intro (And.intro (And.intro @yQ.eq_1 @dT.eq_1) (And.intro
 @dT.eq_2 @CF.eq_1)) (And.intro (And.intro @CF.eq_2 @yR.eq_1) (And.intro @yR.eq_2 @bB.eq_1)))) (And.intro (And.intro (And.intro @SV.ren.eq_1
 (And.intro @SV.ren.eq_2 @SV.ren.eq_3)) (And.intro (And.intro @SV.ren.eq_4 @SV.ren.eq_5) (And.intro @SV.ren.eq_6 @SV.ren.eq_7))) (And.intro (And.intro (And.intro
 @SV.ren.eq_8 @SV.ren.eq_9) (And.intro @SV.ren.eq_10 @SV.ren.eq_11)) (And.intro (And.intro @SV.ren.eq_12 @SV.renL.eq_1) (And.intro @SV.renL.eq_2
 @cQ.eq_1))))) (And.intro (And.intro (And.intro (And.intro @cQ.eq_2 (And.intro @bZ.eq_1 @bZ.eq_2)) (And.intro (And.intro @qM.eq_1 @qM.eq_2)
 (And.intro @Kind.isOwn.eq_1 @Kind.isOwn.eq_2))) (And.intro (And.intro (And.intro @dS.eq_1 @aK.eq_1) (And.intro @aK.eq_2 @aM.eq_1)) (And.intro
 (And.intro @aM.eq_2 @aG.eq_1) (And.intro @aG.eq_2 @dI.eq_1)))) (And.intro (And.intro (And.intro (And.intro @dI.eq_2 @eX.eq_1)
 (And.intro @eX.eq_2 @b7.eq_1)) (And.intro (And.intro @b7.eq_2 @implies_true.{1}) (And.intro @forall_const.{1} @exists_eq_left'.{1}))) (And.intro
 (And.intro (And.intro @forall_eq.{1} @forall_eq_or_imp.{1}) (And.intro @exists_eq_left.{1} @eq_self.{1})) (And.intro (And.intro @ne_eq.{1} @false_imp_iff)
 (And.intro @true_imp_iff @imp_self))))))))
theorem BC:type_of% BCd.down:=BCd.down
def PCd:=PLift.up (And.intro PB ( And.intro (And.intro (And.intro (And.intro @cL.eq_1 (And.intro @cL.eq_2 @cL.eq_3)) (And.intro (And.intro @cL.eq_4 @cL.eq_5) (And.intro @cL.eq_6
 @cL.eq_7))) (And.intro (And.intro (And.intro @cL.eq_8 @cL.eq_9) (And.intro @cL.eq_10 @cL.eq_11)) (And.intro (And.intro @cL.eq_12 @cL.eq_13)
 (And.intro @cL.eq_14 @cL.eq_15)))) (And.intro (And.intro (And.intro @cL.eq_16 (And.intro @cL.eq_17 @nX.eq_1)) (And.intro (And.intro @nX.eq_2
 @nX.eq_3) (And.intro @nX.eq_4 @nX.eq_5))) (And.intro (And.intro (And.intro @nX.eq_6 @nX.eq_7) (And.intro @nX.eq_8 @eG.eq_1)) (And.intro
 (And.intro @eG.eq_2 @dY.eq_1) (And.intro @dY.eq_2 @dY.eq_3))))))
theorem PC:type_of% PCd.down:=PCd.down
def NVd:=PLift.up (And.intro (And.intro (And.intro (And.intro (And.intro (And.intro (And.intro @SV.flatL.eq_1 (And.intro @SV.flatL.eq_2 @SV.flat.eq_1)) (And.intro (And.intro
 @SV.flat.eq_2 @SV.flat.eq_3) (And.intro @SV.flat.eq_4 @SV.flat.eq_5))) (And.intro (And.intro @SV.flat.eq_6 (And.intro @SV.flat.eq_7 @Bool.and_true)) (And.intro
 (And.intro @Bool.and_self @Bool.true_and) (And.intro @beq_self_eq_true.{0} @Blk.mk.injEq)))) (And.intro (And.intro (And.intro @List.cons.injEq.{0} (And.intro
 @SV.int.injEq @SV.bool.injEq)) (And.intro (And.intro @SV.tup.injEq @SV.agg.injEq) (And.intro @and_self @yP.eq_1))) (And.intro (And.intro @yP.eq_2 (And.intro
 @Ny @Nz)) (And.intro (And.intro @OA @iA) (And.intro @nJ @KR))))) (And.intro (And.intro (And.intro (And.intro @wR.eq_1 (And.intro
 @wR.eq_2 @wrap64)) (And.intro (And.intro @false_imp_iff @true_imp_iff) (And.intro @eq_self.{1} @decide_true))) (And.intro (And.intro @decide_false (And.intro
 @Int.cast_ofNat_Int @true_and)) (And.intro (And.intro @and_true @false_and) (And.intro @and_false @imp_self)))) (And.intro (And.intro (And.intro
 @implies_true.{1} (And.intro @List.getElem?_cons_zero.{0} @List.getElem?_cons_succ.{0})) (And.intro (And.intro @List.length_cons.{0} @List.length_nil.{0})
 (And.intro @List.append_nil.{0} @List.nil_append.{0}))) (And.intro (And.intro (And.intro @List.cons_append.{0} @List.take_succ_cons.{0}) (And.intro
 @List.take_zero.{0} @List.drop_succ_cons.{0})) (And.intro (And.intro @List.drop_zero.{0} @List.take_nil.{0}) (And.intro @List.drop_nil.{0}
 @List.reverse_cons.{0})))))) (And.intro (And.intro (And.intro (And.intro (And.intro @List.reverse_nil.{0} (And.intro @List.map_cons.{0,0} @List.map_nil.{0,
 0})) (And.intro (And.intro @Nat.zero_add @Nat.add_zero) (And.intro @gV.eq_1 @gV.eq_2))) (And.intro (And.intro @dN (And.intro @cG @N4))
 (And.intro (And.intro @cB @aW) (And.intro @Ha @Bool.not_true)))) (And.intro (And.intro (And.intro @Bool.not_false (And.intro @eK @b6))
 (And.intro (And.intro @Cx @AG) (And.intro @N7 @Cy))) (And.intro (And.intro @N6 (And.intro @KP @List.all_cons.{0})) (And.intro
 (And.intro @List.all_nil.{0} @List.contains_cons.{0}) (And.intro @List.contains_nil.{0} @Bool.or_false))))) (And.intro (And.intro (And.intro (And.intro
 @Bool.or_self (And.intro @Bool.false_or @Bool.true_or)) (And.intro (And.intro @Bool.or_true @cC) (And.intro @dB @cK))) (And.intro (And.intro
 @i5 (And.intro @iW @mX)) (And.intro (And.intro @oC @N8) (And.intro @oD @Fh)))) (And.intro (And.intro (And.intro @N9 (And.intro
 @Na @Nb)) (And.intro (And.intro @Nc @H7) (And.intro @Ej @vG))) (And.intro (And.intro (And.intro @Nd @Nf) (And.intro @vH
 @OB)) (And.intro (And.intro @OC @OE) (And.intro @WS @Ay))))))) (And.intro (And.intro (And.intro (And.intro (And.intro (And.intro @uI
 (And.intro @Opd.ev.eq_1 @Opd.ev.eq_2)) (And.intro (And.intro @Opd.ev.eq_3 @Opd.ev.eq_4) (And.intro @get.eq_1 @get.eq_2))) (And.intro (And.intro @put.eq_1
 (And.intro @bQ.eq_1 @bQ.eq_2)) (And.intro (And.intro @fF.eq_1 @fF.eq_2) (And.intro @aU.eq_1 @aU.eq_2)))) (And.intro (And.intro (And.intro @iZ.eq_1
 (And.intro @iZ.eq_2 @fH.eq_1)) (And.intro (And.intro @fH.eq_2 @bM.eq_1) (And.intro @bM.eq_2 @jJ.eq_1))) (And.intro (And.intro @jJ.eq_2
 (And.intro @eD.eq_1 @eD.eq_2)) (And.intro (And.intro @dW.eq_1 @dW.eq_2) (And.intro @rd.eq_1 @rd.eq_2))))) (And.intro (And.intro (And.intro
 (And.intro @rm.eq_1 (And.intro @rm.eq_2 @SV.cells?.eq_1)) (And.intro (And.intro @SV.cells?.eq_2 @SV.one.eq_1) (And.intro @SV.one.eq_2 @SV.one.eq_3))) (And.intro
 (And.intro @SV.one.eq_4 (And.intro @SV.one.eq_5 @dX.eq_1)) (And.intro (And.intro @dX.eq_2 @dT.eq_1) (And.intro @dT.eq_2 @CF.eq_1)))) (And.intro
 (And.intro (And.intro @CF.eq_2 (And.intro @yR.eq_1 @yR.eq_2)) (And.intro (And.intro @bB.eq_1 @SV.ren.eq_1) (And.intro @SV.ren.eq_2 @SV.ren.eq_3)))
 (And.intro (And.intro (And.intro @SV.ren.eq_4 @SV.ren.eq_5) (And.intro @SV.ren.eq_6 @SV.ren.eq_7)) (And.intro (And.intro @SV.ren.eq_8 @SV.ren.eq_9) (And.intro
 @SV.ren.eq_10 @SV.ren.eq_11)))))) (And.intro (And.intro (And.intro (And.intro (And.intro @SV.ren.eq_12 (And.intro @SV.renL.eq_1 @SV.renL.eq_2)) (And.intro
 (And.intro @cQ.eq_1 @cQ.eq_2) (And.intro @bZ.eq_1 @bZ.eq_2))) (And.intro (And.intro @qM.eq_1 (And.intro @qM.eq_2 @Kind.isOwn.eq_1))
 (And.intro (And.intro @Kind.isOwn.eq_2 @aC) (And.intro @DG @kG)))) (And.intro (And.intro (And.intro @uG (And.intro @gC
 @List.getElem?_nil.{0})) (And.intro (And.intro @Option.getD_none.{0} @Option.getD_some.{0}) (And.intro @Nat.sub_zero @not_true_eq_false))) (And.intro (And.intro
 @not_false_eq_true (And.intro @Nat.le_refl @a9)) (And.intro (And.intro @qD @mZ) (And.intro @lG @m5))))) (And.intro (And.intro (And.intro
 (And.intro @lH (And.intro @m6 @kI)) (And.intro (And.intro @Ax @AM) (And.intro @aA @aX))) (And.intro (And.intro
 @Int.toNat_natCast (And.intro @Nat.mul_one @Int.le_refl)) (And.intro (And.intro @Option.map_none.{0,0} @En) (And.intro @Eo @qE))))
 (And.intro (And.intro (And.intro @List.length_append.{0} (And.intro @b9 @kV)) (And.intro (And.intro @ML @C8.eq_1) (And.intro
 @C8.eq_2 @N5))) (And.intro (And.intro (And.intro @UR @Az) (And.intro @US @dD)) (And.intro (And.intro @bR @dA.eq_1)
 (And.intro @dA.eq_2 @Nat.lt_irrefl))))))))
theorem NV:type_of% NVd.down:=NVd.down
def NPd:=PLift.up (And.intro (And.intro (And.intro (And.intro (And.intro (And.intro @mU (And.intro @H6 @TI)) (And.intro @nU (And.intro @B6 @Fj))) (And.intro
 (And.intro @g8 (And.intro @mL @nK)) (And.intro @DA (And.intro @J8 @Fl)))) (And.intro (And.intro (And.intro @H9 (And.intro
 @TJ @KT)) (And.intro @DB (And.intro @Nh @Fm))) (And.intro (And.intro @TK (And.intro @o3 @Ni)) (And.intro @fZ (And.intro @Fo
 @AH))))) (And.intro (And.intro (And.intro (And.intro @Nj (And.intro @TL @wS)) (And.intro @gL (And.intro @TM @MH))) (And.intro (And.intro
 @J9 (And.intro @Nk @Nl)) (And.intro @Fp (And.intro @Nm @Aw)))) (And.intro (And.intro (And.intro @Nn (And.intro @i6 @wT))
 (And.intro @CE (And.intro @sJ @Np))) (And.intro (And.intro @WQ (And.intro @WR @KU)) (And.intro @Nq (And.intro @Nr @TN))))))
 (And.intro (And.intro (And.intro (And.intro (And.intro @Nv (And.intro @Ns @TO)) (And.intro @KW (And.intro @Nt @Nu))) (And.intro
 (And.intro @Nw (And.intro @sI @H8)) (And.intro @uE (And.intro @Cz @eJ)))) (And.intro (And.intro (And.intro @iO (And.intro
 @gK @cL.eq_1)) (And.intro @cL.eq_2 (And.intro @cL.eq_3 @cL.eq_4))) (And.intro (And.intro @cL.eq_5 (And.intro @cL.eq_6 @cL.eq_7)) (And.intro
 @cL.eq_8 (And.intro @cL.eq_9 @cL.eq_10))))) (And.intro (And.intro (And.intro (And.intro @cL.eq_11 (And.intro @cL.eq_12 @cL.eq_13)) (And.intro
 @cL.eq_14 (And.intro @cL.eq_15 @cL.eq_16))) (And.intro (And.intro @cL.eq_17 (And.intro @nX.eq_1 @nX.eq_2)) (And.intro @nX.eq_3 (And.intro
 @nX.eq_4 @nX.eq_5)))) (And.intro (And.intro (And.intro @nX.eq_6 (And.intro @nX.eq_7 @nX.eq_8)) (And.intro @eG.eq_1 (And.intro @eG.eq_2
 @dY.eq_1))) (And.intro (And.intro @dY.eq_2 (And.intro @dY.eq_3 @TQ)) (And.intro @Jc (And.intro @R3 @OF)))))))
theorem NP:type_of% NPd.down:=NPd.down
def NJd:=PLift.up (And.intro (And.intro (And.intro @aK.eq_1 (And.intro @aK.eq_2 @aM.eq_1)) (And.intro (And.intro @aM.eq_2 @aG.eq_1) (And.intro
 @aG.eq_2 @fX.eq_1))) (And.intro (And.intro (And.intro @fX.eq_2 @Option.some.injEq.{0}) (And.intro @exists_eq_left'.{1}
 @List.forall_mem_cons.{0})) (And.intro (And.intro @List.not_mem_nil.{0} @ne_eq.{1}) (And.intro @forall_const.{1} @List.take_length.{0}))))
theorem NJ:type_of% NJd.down:=NJd.down
def NFd:=PLift.up (And.intro (And.intro (And.intro (And.intro (And.intro (And.intro @dS.eq_1 @aK.eq_1) (And.intro @aK.eq_2 (And.intro @aM.eq_1 @aM.eq_2)))
 (And.intro (And.intro @aG.eq_1 (And.intro @aG.eq_2 @dI.eq_1)) (And.intro @dI.eq_2 (And.intro @eX.eq_1 @eX.eq_2)))) (And.intro (And.intro
 (And.intro @bB.eq_1 @b7.eq_1) (And.intro @b7.eq_2 (And.intro @rd.eq_1 @rd.eq_2))) (And.intro (And.intro @SV.ren.eq_1 (And.intro @SV.ren.eq_2 @SV.ren.eq_3))
 (And.intro @SV.ren.eq_4 (And.intro @SV.ren.eq_5 @SV.ren.eq_6))))) (And.intro (And.intro (And.intro (And.intro @SV.ren.eq_7 @SV.ren.eq_8) (And.intro @SV.ren.eq_9
 (And.intro @SV.ren.eq_10 @SV.ren.eq_11))) (And.intro (And.intro @SV.ren.eq_12 (And.intro @SV.renL.eq_1 @SV.renL.eq_2)) (And.intro @Option.getD_some.{0}
 (And.intro @Option.getD_none.{0} @List.getElem?_cons_zero.{0})))) (And.intro (And.intro (And.intro @List.getElem?_cons_succ.{0} (And.intro
 @List.getElem?_nil.{0} @List.length_cons.{0})) (And.intro @List.length_nil.{0} (And.intro @Nat.zero_add @Nat.add_zero))) (And.intro (And.intro @Kind.isOwn.eq_1
 (And.intro @Kind.isOwn.eq_2 @List.take_succ_cons.{0})) (And.intro @List.take_zero.{0} (And.intro @List.nil_append.{0} @List.cons_append.{0})))))) (And.intro
 (And.intro (And.intro (And.intro (And.intro @List.append_nil.{0} @List.take_nil.{0}) (And.intro @and_self (And.intro @and_true @true_and))) (And.intro
 (And.intro @exists_eq_left'.{1} (And.intro @Option.some.injEq.{0} @Blk.mk.injEq)) (And.intro @Kind.own.injEq (And.intro @List.drop_zero.{0}
 @List.take_length.{0})))) (And.intro (And.intro (And.intro @Nat.le_refl (And.intro @ne_eq.{1} @not_false_eq_true)) (And.intro @implies_true.{1} (And.intro
 @List.forall_mem_cons.{0} @List.not_mem_nil.{0}))) (And.intro (And.intro @false_imp_iff (And.intro @Bool.or_false @Bool.false_or)) (And.intro @Bool.or_self
 (And.intro @Bool.true_or @Bool.or_true))))) (And.intro (And.intro (And.intro (And.intro @forall_const.{1} @List.mem_cons.{0}) (And.intro @or_false (And.intro
 @forall_eq_or_imp.{1} @forall_eq.{1}))) (And.intro (And.intro @Nat.succ_ne_self (And.intro @exists_eq_left.{1} @Option.some_inj.{0})) (And.intro @DG
 (And.intro @o4 @aC)))) (And.intro (And.intro (And.intro @aA (And.intro @a9 @qD)) (And.intro @mZ (And.intro @lG
 @m5))) (And.intro (And.intro @lH (And.intro @m6 @kI)) (And.intro @Ax (And.intro @kG @gC)))))))
theorem NF:type_of% NFd.down:=NFd.down
def u32 (n:Int):SV:=.int .u32 n
def kc:List Int:=[0x428a2f98,0x71374491,0xb5c0fbcf,0xe9b5dba5,0x3956c25b,0x59f111f1,0x923f82a4,0xab1c5ed5,
 0xd807aa98,0x12835b01,0x243185be,0x550c7dc3,0x72be5d74,0x80deb1fe,0x9bdc06a7,0xc19bf174,
 0xe49b69c1,0xefbe4786,0x0fc19dc6,0x240ca1cc,0x2de92c6f,0x4a7484aa,0x5cb0a9dc,0x76f988da,
 0x983e5152,0xa831c66d,0xb00327c8,0xbf597fc7,0xc6e00bf3,0xd5a79147,0x06ca6351,0x14292967,
 0x27b70a85,0x2e1b2138,0x4d2c6dfc,0x53380d13,0x650a7354,0x766a0abb,0x81c2c92e,0x92722c85,
 0xa2bfe8a1,0xa81a664b,0xc24b8b70,0xc76c51a3,0xd192e819,0xd6990624,0xf40e3585,0x106aa070,
 0x19a4c116,0x1e376c08,0x2748774c,0x34b0bcb5,0x391c0cb3,0x4ed8aa4a,0x5b9cca4f,0x682e6ff3,
 0x748f82ee,0x78a5636f,0x84c87814,0x8cc70208,0x90befffa,0xa4506ceb,0xbef9a3f7,0xc67178f2]
def tH:List (Nat × List SV):=[(1,kc.map u32)]
def kJ (n:Int):Prop:=-9223372036854775808≤n∧n≤9223372036854775807
theorem WW:cY Tryz.prog 33 (aJ Tryz.prog Tryz.f33)=true:=by kernel_rfl
theorem WX:cY Tryz.prog 39 (aJ Tryz.prog Tryz.f39)=true:=by kernel_rfl
theorem ZW:cY Tryz.prog 43 (aJ Tryz.prog Tryz.f43)=true:=by kernel_rfl
theorem ZX:cY Tryz.prog 45 (aJ Tryz.prog Tryz.f45)=true:=by kernel_rfl
theorem ZY:cY Tryz.prog 47 (aJ Tryz.prog Tryz.f47)=true:=by kernel_rfl
theorem ZZ:cY Tryz.prog 48 (aJ Tryz.prog Tryz.f48)=true:=by kernel_rfl
theorem Z0:cY Tryz.prog 49 (aJ Tryz.prog Tryz.f49)=true:=by kernel_rfl
theorem Z1:cY Tryz.prog 50 (aJ Tryz.prog Tryz.f50)=true:=by kernel_rfl
theorem Z2:cY Tryz.prog 51 (aJ Tryz.prog Tryz.f51)=true:=by kernel_rfl
theorem Z3:cY Tryz.prog 52 (aJ Tryz.prog Tryz.f52)=true:=by kernel_rfl
theorem Z4:cY Tryz.prog 63 (aJ Tryz.prog Tryz.f63)=true:=by kernel_rfl
theorem Z5:cY Tryz.prog 65 (aJ Tryz.prog Tryz.f65)=true:=by kernel_rfl
theorem Z6:cY Tryz.prog 74 (aJ Tryz.prog Tryz.f74)=true:=by kernel_rfl
theorem Z7:cY Tryz.prog 75 (aJ Tryz.prog Tryz.f75)=true:=by kernel_rfl
theorem Z8:cY Tryz.prog 76 (aJ Tryz.prog Tryz.f76)=true:=by kernel_rfl
theorem Z9:cY Tryz.prog 77 (aJ Tryz.prog Tryz.f77)=true:=by kernel_rfl
theorem Za:cY Tryz.prog 78 (aJ Tryz.prog Tryz.f78)=true:=by kernel_rfl
theorem Zb:cY Tryz.prog 79 (aJ Tryz.prog Tryz.f79)=true:=by kernel_rfl
theorem Zc:cY Tryz.prog 81 (aJ Tryz.prog Tryz.f81)=true:=by kernel_rfl
theorem Zd:cY Tryz.prog 84 (aJ Tryz.prog Tryz.f84)=true:=by kernel_rfl
theorem Ze:cY Tryz.prog 85 (aJ Tryz.prog Tryz.f85)=true:=by kernel_rfl
theorem Zf:cY Tryz.prog 89 (aJ Tryz.prog Tryz.f89)=true:=by kernel_rfl
theorem WY:cY Tryz.prog 91 (aJ Tryz.prog Tryz.f91)=true:=by kernel_rfl
theorem Zg:cY Tryz.prog 92 (aJ Tryz.prog Tryz.f92)=true:=by kernel_rfl
theorem Zh:cY Tryz.prog 93 (aJ Tryz.prog Tryz.f93)=true:=by kernel_rfl
theorem Zi:cY Tryz.prog 94 (aJ Tryz.prog Tryz.f94)=true:=by kernel_rfl
theorem WZ:cY Tryz.prog 95 (aJ Tryz.prog Tryz.f95)=true:=by kernel_rfl
theorem Zj:cY Tryz.prog 96 (aJ Tryz.prog Tryz.f96)=true:=by kernel_rfl
theorem Zk:cY Tryz.prog 98 (aJ Tryz.prog Tryz.f98)=true:=by kernel_rfl
theorem Zl:cY Tryz.prog 99 (aJ Tryz.prog Tryz.f99)=true:=by kernel_rfl
theorem W1:cY Tryz.prog 100 (aJ Tryz.prog Tryz.f100)=true:=by kernel_rfl
theorem TT:cY Tryz.prog 101 (aJ Tryz.prog Tryz.f101)=true:=by kernel_rfl
theorem TU:cY Tryz.prog 102 (aJ Tryz.prog Tryz.f102)=true:=by kernel_rfl
theorem W2:cY Tryz.prog 103 (aJ Tryz.prog Tryz.f103)=true:=by kernel_rfl
theorem W4:cY Tryz.prog 104 (aJ Tryz.prog Tryz.f104)=true:=by kernel_rfl
theorem TV:cY Tryz.prog 105 (aJ Tryz.prog Tryz.f105)=true:=by kernel_rfl
theorem TW:cY Tryz.prog 106 (aJ Tryz.prog Tryz.f106)=true:=by kernel_rfl
theorem W5:cY Tryz.prog 107 (aJ Tryz.prog Tryz.f107)=true:=by kernel_rfl
theorem TY:cY Tryz.prog 108 (aJ Tryz.prog Tryz.f108)=true:=by kernel_rfl
theorem W7:cY Tryz.prog 109 (aJ Tryz.prog Tryz.f109)=true:=by kernel_rfl
theorem W8:cY Tryz.prog 110 (aJ Tryz.prog Tryz.f110)=true:=by kernel_rfl
theorem W9:cY Tryz.prog 111 (aJ Tryz.prog Tryz.f111)=true:=by kernel_rfl
theorem TZ:cY Tryz.prog 112 (aJ Tryz.prog Tryz.f112)=true:=by kernel_rfl
theorem Wa:cY Tryz.prog 114 (aJ Tryz.prog Tryz.f114)=true:=by kernel_rfl
theorem Wb:cY Tryz.prog 115 (aJ Tryz.prog Tryz.f115)=true:=by kernel_rfl
theorem Wc:cY Tryz.prog 116 (aJ Tryz.prog Tryz.f116)=true:=by kernel_rfl
theorem Wd:cY Tryz.prog 117 (aJ Tryz.prog Tryz.f117)=true:=by kernel_rfl
theorem We:cY Tryz.prog 120 (aJ Tryz.prog Tryz.f120)=true:=by kernel_rfl
theorem Wf:cY Tryz.prog 121 (aJ Tryz.prog Tryz.f121)=true:=by kernel_rfl
theorem Wg:cY Tryz.prog 122 (aJ Tryz.prog Tryz.f122)=true:=by kernel_rfl
theorem Wh:cY Tryz.prog 123 (aJ Tryz.prog Tryz.f123)=true:=by kernel_rfl
theorem Wi:cY Tryz.prog 126 (aJ Tryz.prog Tryz.f126)=true:=by kernel_rfl
theorem Wj:cY Tryz.prog 127 (aJ Tryz.prog Tryz.f127)=true:=by kernel_rfl
theorem Wk:cY Tryz.prog 129 (aJ Tryz.prog Tryz.f129)=true:=by kernel_rfl
theorem Wl:cY Tryz.prog 131 (aJ Tryz.prog Tryz.f131)=true:=by kernel_rfl
theorem Wm:cY Tryz.prog 132 (aJ Tryz.prog Tryz.f132)=true:=by kernel_rfl
theorem T0:cY Tryz.prog 133 (aJ Tryz.prog Tryz.f133)=true:=by kernel_rfl
theorem Wn:cY Tryz.prog 134 (aJ Tryz.prog Tryz.f134)=true:=by kernel_rfl
theorem Wo:cY Tryz.prog 135 (aJ Tryz.prog Tryz.f135)=true:=by kernel_rfl
theorem OJ:cY Tryz.prog 136 (aJ Tryz.prog Tryz.f136)=true:=by kernel_rfl
theorem Wp:cY Tryz.prog 137 (aJ Tryz.prog Tryz.f137)=true:=by kernel_rfl
theorem Wq:cY Tryz.prog 138 (aJ Tryz.prog Tryz.f138)=true:=by kernel_rfl
theorem T1:cY Tryz.prog 139 (aJ Tryz.prog Tryz.f139)=true:=by kernel_rfl
theorem Wr:cY Tryz.prog 140 (aJ Tryz.prog Tryz.f140)=true:=by kernel_rfl
theorem Ws:cY Tryz.prog 141 (aJ Tryz.prog Tryz.f141)=true:=by kernel_rfl
theorem Bd:cY Tryz.prog 142 (aJ Tryz.prog Tryz.f142)=true:=by kernel_rfl
theorem Wt:cY Tryz.prog 143 (aJ Tryz.prog Tryz.f143)=true:=by kernel_rfl
theorem Wu:cY Tryz.prog 144 (aJ Tryz.prog Tryz.f144)=true:=by kernel_rfl
theorem Wv:cY Tryz.prog 145 (aJ Tryz.prog Tryz.f145)=true:=by kernel_rfl
theorem Ww:cY Tryz.prog 146 (aJ Tryz.prog Tryz.f146)=true:=by kernel_rfl
theorem Wx:cY Tryz.prog 150 (aJ Tryz.prog Tryz.f150)=true:=by kernel_rfl
theorem Wy:cY Tryz.prog 151 (aJ Tryz.prog Tryz.f151)=true:=by kernel_rfl
theorem Wz:cY Tryz.prog 152 (aJ Tryz.prog Tryz.f152)=true:=by kernel_rfl
theorem XA:cY Tryz.prog 153 (aJ Tryz.prog Tryz.f153)=true:=by kernel_rfl
theorem XB:cY Tryz.prog 154 (aJ Tryz.prog Tryz.f154)=true:=by kernel_rfl
theorem T2:cY Tryz.prog 155 (aJ Tryz.prog Tryz.f155)=true:=by kernel_rfl
theorem XC:cY Tryz.prog 156 (aJ Tryz.prog Tryz.f156)=true:=by kernel_rfl
theorem XD:cY Tryz.prog 157 (aJ Tryz.prog Tryz.f157)=true:=by kernel_rfl
theorem XE:cY Tryz.prog 158 (aJ Tryz.prog Tryz.f158)=true:=by kernel_rfl
theorem T3:cY Tryz.prog 159 (aJ Tryz.prog Tryz.f159)=true:=by kernel_rfl
theorem Es:cY Tryz.prog 161 (aJ Tryz.prog Tryz.f161)=true:=by kernel_rfl
theorem XF:cY Tryz.prog 162 (aJ Tryz.prog Tryz.f162)=true:=by kernel_rfl
theorem XG:cY Tryz.prog 163 (aJ Tryz.prog Tryz.f163)=true:=by kernel_rfl
theorem XH:cY Tryz.prog 164 (aJ Tryz.prog Tryz.f164)=true:=by kernel_rfl
theorem XI:cY Tryz.prog 165 (aJ Tryz.prog Tryz.f165)=true:=by kernel_rfl
theorem XJ:cY Tryz.prog 167 (aJ Tryz.prog Tryz.f167)=true:=by kernel_rfl
theorem T4:cY Tryz.prog 168 (aJ Tryz.prog Tryz.f168)=true:=by kernel_rfl
theorem XK:cY Tryz.prog 169 (aJ Tryz.prog Tryz.f169)=true:=by kernel_rfl
theorem XL:cY Tryz.prog 170 (aJ Tryz.prog Tryz.f170)=true:=by kernel_rfl
theorem XM:cY Tryz.prog 172 (aJ Tryz.prog Tryz.f172)=true:=by kernel_rfl
end Go.Proofs.YtmhkkalbijbplaaGreatDoor
