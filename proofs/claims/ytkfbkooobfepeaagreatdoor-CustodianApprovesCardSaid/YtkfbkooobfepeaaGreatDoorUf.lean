/- The proof, part Uf: the texts Bnd, TabA, SfA, SfB, SfC, HasA, HasB, HasC, HasD, HasE, HasF. -/
import Derived.Test.YtkfbkooobfepeaaGreatDoorUe
import Derived.Test.YtkfbkooobfepeaaGreatDoorChecked
set_option linter.unusedSimpArgs false
set_option linter.unusedVariables false
/- The lemmas by which a run is carried out, in two bundles. -/
namespace Go.Proofs.YtkfbkooobfepeaaGreatDoor
open Go Go.Sx
theorem BB:type_of% ( And.intro (And.intro (And.intro (And.intro (And.intro (And.intro @Bool.and_true (And.intro @Bool.and_self @Bool.true_and)) (And.intro (And.intro
  @beq_self_eq_true.{0} @Blk.mk.injEq) (And.intro @List.cons.injEq.{0} @SV.int.injEq))) (And.intro (And.intro (And.intro @SV.bool.injEq @SV.tup.injEq) (And.intro
  @SV.agg.injEq @and_self)) (And.intro (And.intro @finO_r @finO_n) (And.intro @finO_x @again_n)))) (And.intro (And.intro (And.intro (And.intro @again_x @again_r)
  (And.intro @wrap64 @decide_true)) (And.intro (And.intro @decide_false @Int.cast_ofNat_Int) (And.intro @true_and @and_true))) (And.intro (And.intro (And.intro
  @false_and @and_false) (And.intro @List.getElem?_cons_zero.{0} @List.getElem?_cons_succ.{0})) (And.intro (And.intro @List.length_cons.{0} @List.length_nil.{0})
  (And.intro @List.append_nil.{0} @List.nil_append.{0}))))) (And.intro (And.intro (And.intro (And.intro @List.cons_append.{0} (And.intro @List.take_succ_cons.{0}
  @List.take_zero.{0})) (And.intro (And.intro @List.drop_succ_cons.{0} @List.drop_zero.{0}) (And.intro @List.take_nil.{0} @List.drop_nil.{0}))) (And.intro
  (And.intro (And.intro @List.reverse_cons.{0} @List.reverse_nil.{0}) (And.intro @List.map_cons.{0,0} @List.map_nil.{0,0})) (And.intro (And.intro @Nat.zero_add
  @Nat.add_zero) (And.intro @den_nil @den_o0)))) (And.intro (And.intro (And.intro (And.intro @gd_any @den_o1) (And.intro @kont_app @den_g)) (And.intro (And.intro
  @Bool.not_true @Bool.not_false) (And.intro @den_skip @den_reg))) (And.intro (And.intro (And.intro @den_regD @den_regP) (And.intro @den_A @den_regW)) (And.intro
  (And.intro @den_W @den_bad) (And.intro @List.all_cons.{0} @List.all_nil.{0})))))) (And.intro (And.intro (And.intro (And.intro (And.intro @List.contains_cons.{0}
  (And.intro @List.contains_nil.{0} @Bool.or_false)) (And.intro (And.intro @Bool.or_self @Bool.false_or) (And.intro @Bool.true_or @Bool.or_true))) (And.intro
  (And.intro (And.intro @den_seq @den_cond) (And.intro @den_block @den_exit)) (And.intro (And.intro @den_ret @den_b) (And.intro @den_xb @den_xo)))) (And.intro
  (And.intro (And.intro (And.intro @den_xc @den_xu) (And.intro @den_rb @den_ro)) (And.intro (And.intro @den_rc @den_ru) (And.intro @den_u @den_loopU))) (And.intro
  (And.intro (And.intro @finP_r @finP_n) (And.intro @finP_x @finE_r)) (And.intro (And.intro @finE_n @finE_x) (And.intro @ren_bytes @byte_ren))))) (And.intro
  (And.intro (And.intro (And.intro (And.intro @ren_ints @flat_ints) (And.intro @len_ints @List.getElem?_nil.{0})) (And.intro (And.intro @Option.getD_none.{0}
  @Option.getD_some.{0}) (And.intro @Nat.sub_zero @not_true_eq_false))) (And.intro (And.intro (And.intro @not_false_eq_true @Nat.le_refl) (And.intro @take_bytes
  @take_ints)) (And.intro (And.intro @nlS_0 @nlS_1) (And.intro @nlM_0 @nlM_1)))) (And.intro (And.intro (And.intro (And.intro @nlN_0 @nlN_1) (And.intro @take_bys1
  @map_byte)) (And.intro (And.intro @len_bytes @flat_bytes) (And.intro @Int.toNat_natCast @Nat.mul_one))) (And.intro (And.intro (And.intro @Option.some.injEq.{0}
  @Kind.own.injEq) (And.intro @List.take_length.{0} @List.not_mem_nil.{0})) (And.intro (And.intro @List.mem_cons.{0} @or_false) (And.intro @Nat.succ_ne_self
  @one_byte))))))):=And.intro (And.intro (And.intro (And.intro (And.intro (And.intro @Bool.and_true (And.intro @Bool.and_self @Bool.true_and)) (And.intro (And.intro
  @beq_self_eq_true.{0} @Blk.mk.injEq) (And.intro @List.cons.injEq.{0} @SV.int.injEq))) (And.intro (And.intro (And.intro @SV.bool.injEq @SV.tup.injEq) (And.intro
  @SV.agg.injEq @and_self)) (And.intro (And.intro @finO_r @finO_n) (And.intro @finO_x @again_n)))) (And.intro (And.intro (And.intro (And.intro @again_x @again_r)
  (And.intro @wrap64 @decide_true)) (And.intro (And.intro @decide_false @Int.cast_ofNat_Int) (And.intro @true_and @and_true))) (And.intro (And.intro (And.intro
  @false_and @and_false) (And.intro @List.getElem?_cons_zero.{0} @List.getElem?_cons_succ.{0})) (And.intro (And.intro @List.length_cons.{0} @List.length_nil.{0})
  (And.intro @List.append_nil.{0} @List.nil_append.{0}))))) (And.intro (And.intro (And.intro (And.intro @List.cons_append.{0} (And.intro @List.take_succ_cons.{0}
  @List.take_zero.{0})) (And.intro (And.intro @List.drop_succ_cons.{0} @List.drop_zero.{0}) (And.intro @List.take_nil.{0} @List.drop_nil.{0}))) (And.intro
  (And.intro (And.intro @List.reverse_cons.{0} @List.reverse_nil.{0}) (And.intro @List.map_cons.{0,0} @List.map_nil.{0,0})) (And.intro (And.intro @Nat.zero_add
  @Nat.add_zero) (And.intro @den_nil @den_o0)))) (And.intro (And.intro (And.intro (And.intro @gd_any @den_o1) (And.intro @kont_app @den_g)) (And.intro (And.intro
  @Bool.not_true @Bool.not_false) (And.intro @den_skip @den_reg))) (And.intro (And.intro (And.intro @den_regD @den_regP) (And.intro @den_A @den_regW)) (And.intro
  (And.intro @den_W @den_bad) (And.intro @List.all_cons.{0} @List.all_nil.{0})))))) (And.intro (And.intro (And.intro (And.intro (And.intro @List.contains_cons.{0}
  (And.intro @List.contains_nil.{0} @Bool.or_false)) (And.intro (And.intro @Bool.or_self @Bool.false_or) (And.intro @Bool.true_or @Bool.or_true))) (And.intro
  (And.intro (And.intro @den_seq @den_cond) (And.intro @den_block @den_exit)) (And.intro (And.intro @den_ret @den_b) (And.intro @den_xb @den_xo)))) (And.intro
  (And.intro (And.intro (And.intro @den_xc @den_xu) (And.intro @den_rb @den_ro)) (And.intro (And.intro @den_rc @den_ru) (And.intro @den_u @den_loopU))) (And.intro
  (And.intro (And.intro @finP_r @finP_n) (And.intro @finP_x @finE_r)) (And.intro (And.intro @finE_n @finE_x) (And.intro @ren_bytes @byte_ren))))) (And.intro
  (And.intro (And.intro (And.intro (And.intro @ren_ints @flat_ints) (And.intro @len_ints @List.getElem?_nil.{0})) (And.intro (And.intro @Option.getD_none.{0}
  @Option.getD_some.{0}) (And.intro @Nat.sub_zero @not_true_eq_false))) (And.intro (And.intro (And.intro @not_false_eq_true @Nat.le_refl) (And.intro @take_bytes
  @take_ints)) (And.intro (And.intro @nlS_0 @nlS_1) (And.intro @nlM_0 @nlM_1)))) (And.intro (And.intro (And.intro (And.intro @nlN_0 @nlN_1) (And.intro @take_bys1
  @map_byte)) (And.intro (And.intro @len_bytes @flat_bytes) (And.intro @Int.toNat_natCast @Nat.mul_one))) (And.intro (And.intro (And.intro @Option.some.injEq.{0}
  @Kind.own.injEq) (And.intro @List.take_length.{0} @List.not_mem_nil.{0})) (And.intro (And.intro @List.mem_cons.{0} @or_false) (And.intro @Nat.succ_ne_self
  @one_byte))))))
theorem PB:type_of% ( And.intro (And.intro (And.intro (And.intro (And.intro (And.intro @u_callAnd @u_callX) (And.intro @gd_tt @gd_ff)) (And.intro (And.intro @gd_tf @gd_ft) (And.intro
  @e_box @e_build))) (And.intro (And.intro (And.intro @e_bslice @e_load) (And.intro @e_store @e_idxS)) (And.intro (And.intro @e_idxV @e_idxT) (And.intro @e_fieldV
  @e_eqv)))) (And.intro (And.intro (And.intro (And.intro @e_isNil @e_b2s) (And.intro @e_slcS @e_arrAt)) (And.intro (And.intro @e_ext @e_app) (And.intro @e_copy
  @e_mv))) (And.intro (And.intro (And.intro @e_pick @e_new) (And.intro @e_nilc @e_fld)) (And.intro (And.intro @e_idxA @e_bin) (And.intro @e_eqb @e_un)))))
  (And.intro (And.intro (And.intro (And.intro (And.intro @e_conv @e_strS) (And.intro @e_s2b @e_mkfn)) (And.intro (And.intro @e_mksl @e_slcA) (And.intro @e_slcT
  @e_call))) (And.intro (And.intro (And.intro @e_callp @e_callv) (And.intro @e_len @e_lenA)) (And.intro (And.intro @e_mx @e_mn) (And.intro @e_mkmap @e_mput))))
  (And.intro (And.intro (And.intro (And.intro @e_mlen @e_mk8) (And.intro @e_capN @e_pcmp)) (And.intro (And.intro @e_cvp @e_noesc) (And.intro @e_sdat @e_ustr)))
  (And.intro (And.intro (And.intro @e_appZ @u_onInt) (And.intro @u_onBool @u_onOpt0)) (And.intro (And.intro @u_onOpt1 @u_binV) (And.intro @u_srcOf (And.intro
  @u_srcSl @u_callS))))))):=And.intro (And.intro (And.intro (And.intro (And.intro (And.intro @u_callAnd @u_callX) (And.intro @gd_tt @gd_ff)) (And.intro (And.intro @gd_tf @gd_ft) (And.intro
  @e_box @e_build))) (And.intro (And.intro (And.intro @e_bslice @e_load) (And.intro @e_store @e_idxS)) (And.intro (And.intro @e_idxV @e_idxT) (And.intro @e_fieldV
  @e_eqv)))) (And.intro (And.intro (And.intro (And.intro @e_isNil @e_b2s) (And.intro @e_slcS @e_arrAt)) (And.intro (And.intro @e_ext @e_app) (And.intro @e_copy
  @e_mv))) (And.intro (And.intro (And.intro @e_pick @e_new) (And.intro @e_nilc @e_fld)) (And.intro (And.intro @e_idxA @e_bin) (And.intro @e_eqb @e_un)))))
  (And.intro (And.intro (And.intro (And.intro (And.intro @e_conv @e_strS) (And.intro @e_s2b @e_mkfn)) (And.intro (And.intro @e_mksl @e_slcA) (And.intro @e_slcT
  @e_call))) (And.intro (And.intro (And.intro @e_callp @e_callv) (And.intro @e_len @e_lenA)) (And.intro (And.intro @e_mx @e_mn) (And.intro @e_mkmap @e_mput))))
  (And.intro (And.intro (And.intro (And.intro @e_mlen @e_mk8) (And.intro @e_capN @e_pcmp)) (And.intro (And.intro @e_cvp @e_noesc) (And.intro @e_sdat @e_ustr)))
  (And.intro (And.intro (And.intro @e_appZ @u_onInt) (And.intro @u_onBool @u_onOpt0)) (And.intro (And.intro @u_onOpt1 @u_binV) (And.intro @u_srcOf (And.intro
  @u_srcSl @u_callS))))))
theorem BC:type_of% (And.intro BB ( And.intro (And.intro (And.intro (And.intro (And.intro (And.intro @SV.flatL.eq_1 (And.intro @SV.flatL.eq_2 @SV.flat.eq_1)) (And.intro (And.intro @SV.flat.eq_2
  @SV.flat.eq_3) (And.intro @SV.flat.eq_4 @SV.flat.eq_5))) (And.intro (And.intro (And.intro @SV.flat.eq_6 @SV.flat.eq_7) (And.intro @lookF.eq_1 @lookF.eq_2))
  (And.intro (And.intro @setv.eq_1 @setv.eq_2) (And.intro @lookT.eq_1 @lookT.eq_2)))) (And.intro (And.intro (And.intro @frOf.eq_1 (And.intro @frOf.eq_2
  @Opd.ev.eq_1)) (And.intro (And.intro @Opd.ev.eq_2 @Opd.ev.eq_3) (And.intro @Opd.ev.eq_4 @get.eq_1))) (And.intro (And.intro (And.intro @get.eq_2 @put.eq_1)
  (And.intro @putO.eq_1 @putO.eq_2)) (And.intro (And.intro @del.eq_1 @del.eq_2) (And.intro @dels.eq_1 @dels.eq_2))))) (And.intro (And.intro (And.intro (And.intro
  @frD.eq_1 (And.intro @frD.eq_2 @memD.eq_1)) (And.intro (And.intro @memD.eq_2 @pickD.eq_1) (And.intro @pickD.eq_2 @kills.eq_1))) (And.intro (And.intro (And.intro
  @kills.eq_2 @views.eq_1) (And.intro @views.eq_2 @newer.eq_1)) (And.intro (And.intro @newer.eq_2 @rd.eq_1) (And.intro @rd.eq_2 @rm.eq_1)))) (And.intro (And.intro
  (And.intro (And.intro @rm.eq_2 @SV.cells?.eq_1) (And.intro @SV.cells?.eq_2 @SV.one.eq_1)) (And.intro (And.intro @SV.one.eq_2 @SV.one.eq_3) (And.intro
  @SV.one.eq_4 @SV.one.eq_5))) (And.intro (And.intro (And.intro @retOf.eq_1 @retOf.eq_2) (And.intro @canLW.eq_1 @canLW.eq_2)) (And.intro (And.intro @canV.eq_1
  @canV.eq_2) (And.intro @canV.eq_3 @canV.eq_4)))))) (And.intro (And.intro (And.intro (And.intro (And.intro @canV.eq_5 (And.intro @canV.eq_6 @canV.eq_7))
  (And.intro (And.intro @canV.eq_8 @canV.eq_9) (And.intro @canV.eq_10 @canV.eq_11))) (And.intro (And.intro (And.intro @canC.eq_1 @belowL.eq_1) (And.intro
  @belowL.eq_2 @apH.eq_1)) (And.intro (And.intro @apH.eq_2 @apH1.eq_1) (And.intro @apH1.eq_2 @eta.eq_1)))) (And.intro (And.intro (And.intro @SV.ren.eq_1
  (And.intro @SV.ren.eq_2 @SV.ren.eq_3)) (And.intro (And.intro @SV.ren.eq_4 @SV.ren.eq_5) (And.intro @SV.ren.eq_6 @SV.ren.eq_7))) (And.intro (And.intro (And.intro
  @SV.ren.eq_8 @SV.ren.eq_9) (And.intro @SV.ren.eq_10 @SV.ren.eq_11)) (And.intro (And.intro @SV.ren.eq_12 @SV.renL.eq_1) (And.intro @SV.renL.eq_2
  @newOwn.eq_1))))) (And.intro (And.intro (And.intro (And.intro @newOwn.eq_2 (And.intro @targets.eq_1 @targets.eq_2)) (And.intro (And.intro @rms.eq_1 @rms.eq_2)
  (And.intro @Kind.isOwn.eq_1 @Kind.isOwn.eq_2))) (And.intro (And.intro (And.intro @EntM.eq_1 @compat.eq_1) (And.intro @compat.eq_2 @apartM.eq_1)) (And.intro
  (And.intro @apartM.eq_2 @keysBelow.eq_1) (And.intro @keysBelow.eq_2 @frEnt.eq_1)))) (And.intro (And.intro (And.intro (And.intro @frEnt.eq_2 @geto.eq_1)
  (And.intro @geto.eq_2 @idHs.eq_1)) (And.intro (And.intro @idHs.eq_2 @implies_true.{1}) (And.intro @forall_const.{1} @exists_eq_left'.{1}))) (And.intro
  (And.intro (And.intro @forall_eq.{1} @forall_eq_or_imp.{1}) (And.intro @exists_eq_left.{1} @eq_self.{1})) (And.intro (And.intro @ne_eq.{1} @false_imp_iff)
  (And.intro @true_imp_iff @imp_self)))))))):=And.intro BB ( And.intro (And.intro (And.intro (And.intro (And.intro (And.intro @SV.flatL.eq_1 (And.intro @SV.flatL.eq_2 @SV.flat.eq_1)) (And.intro (And.intro @SV.flat.eq_2
  @SV.flat.eq_3) (And.intro @SV.flat.eq_4 @SV.flat.eq_5))) (And.intro (And.intro (And.intro @SV.flat.eq_6 @SV.flat.eq_7) (And.intro @lookF.eq_1 @lookF.eq_2))
  (And.intro (And.intro @setv.eq_1 @setv.eq_2) (And.intro @lookT.eq_1 @lookT.eq_2)))) (And.intro (And.intro (And.intro @frOf.eq_1 (And.intro @frOf.eq_2
  @Opd.ev.eq_1)) (And.intro (And.intro @Opd.ev.eq_2 @Opd.ev.eq_3) (And.intro @Opd.ev.eq_4 @get.eq_1))) (And.intro (And.intro (And.intro @get.eq_2 @put.eq_1)
  (And.intro @putO.eq_1 @putO.eq_2)) (And.intro (And.intro @del.eq_1 @del.eq_2) (And.intro @dels.eq_1 @dels.eq_2))))) (And.intro (And.intro (And.intro (And.intro
  @frD.eq_1 (And.intro @frD.eq_2 @memD.eq_1)) (And.intro (And.intro @memD.eq_2 @pickD.eq_1) (And.intro @pickD.eq_2 @kills.eq_1))) (And.intro (And.intro (And.intro
  @kills.eq_2 @views.eq_1) (And.intro @views.eq_2 @newer.eq_1)) (And.intro (And.intro @newer.eq_2 @rd.eq_1) (And.intro @rd.eq_2 @rm.eq_1)))) (And.intro (And.intro
  (And.intro (And.intro @rm.eq_2 @SV.cells?.eq_1) (And.intro @SV.cells?.eq_2 @SV.one.eq_1)) (And.intro (And.intro @SV.one.eq_2 @SV.one.eq_3) (And.intro
  @SV.one.eq_4 @SV.one.eq_5))) (And.intro (And.intro (And.intro @retOf.eq_1 @retOf.eq_2) (And.intro @canLW.eq_1 @canLW.eq_2)) (And.intro (And.intro @canV.eq_1
  @canV.eq_2) (And.intro @canV.eq_3 @canV.eq_4)))))) (And.intro (And.intro (And.intro (And.intro (And.intro @canV.eq_5 (And.intro @canV.eq_6 @canV.eq_7))
  (And.intro (And.intro @canV.eq_8 @canV.eq_9) (And.intro @canV.eq_10 @canV.eq_11))) (And.intro (And.intro (And.intro @canC.eq_1 @belowL.eq_1) (And.intro
  @belowL.eq_2 @apH.eq_1)) (And.intro (And.intro @apH.eq_2 @apH1.eq_1) (And.intro @apH1.eq_2 @eta.eq_1)))) (And.intro (And.intro (And.intro @SV.ren.eq_1
  (And.intro @SV.ren.eq_2 @SV.ren.eq_3)) (And.intro (And.intro @SV.ren.eq_4 @SV.ren.eq_5) (And.intro @SV.ren.eq_6 @SV.ren.eq_7))) (And.intro (And.intro (And.intro
  @SV.ren.eq_8 @SV.ren.eq_9) (And.intro @SV.ren.eq_10 @SV.ren.eq_11)) (And.intro (And.intro @SV.ren.eq_12 @SV.renL.eq_1) (And.intro @SV.renL.eq_2
  @newOwn.eq_1))))) (And.intro (And.intro (And.intro (And.intro @newOwn.eq_2 (And.intro @targets.eq_1 @targets.eq_2)) (And.intro (And.intro @rms.eq_1 @rms.eq_2)
  (And.intro @Kind.isOwn.eq_1 @Kind.isOwn.eq_2))) (And.intro (And.intro (And.intro @EntM.eq_1 @compat.eq_1) (And.intro @compat.eq_2 @apartM.eq_1)) (And.intro
  (And.intro @apartM.eq_2 @keysBelow.eq_1) (And.intro @keysBelow.eq_2 @frEnt.eq_1)))) (And.intro (And.intro (And.intro (And.intro @frEnt.eq_2 @geto.eq_1)
  (And.intro @geto.eq_2 @idHs.eq_1)) (And.intro (And.intro @idHs.eq_2 @implies_true.{1}) (And.intro @forall_const.{1} @exists_eq_left'.{1}))) (And.intro
  (And.intro (And.intro @forall_eq.{1} @forall_eq_or_imp.{1}) (And.intro @exists_eq_left.{1} @eq_self.{1})) (And.intro (And.intro @ne_eq.{1} @false_imp_iff)
  (And.intro @true_imp_iff @imp_self)))))))
theorem PC:type_of% (And.intro PB ( And.intro (And.intro (And.intro (And.intro @binI.eq_1 (And.intro @binI.eq_2 @binI.eq_3)) (And.intro (And.intro @binI.eq_4 @binI.eq_5) (And.intro @binI.eq_6
  @binI.eq_7))) (And.intro (And.intro (And.intro @binI.eq_8 @binI.eq_9) (And.intro @binI.eq_10 @binI.eq_11)) (And.intro (And.intro @binI.eq_12 @binI.eq_13)
  (And.intro @binI.eq_14 @binI.eq_15)))) (And.intro (And.intro (And.intro @binI.eq_16 (And.intro @binI.eq_17 @binS.eq_1)) (And.intro (And.intro @binS.eq_2
  @binS.eq_3) (And.intro @binS.eq_4 @binS.eq_5))) (And.intro (And.intro (And.intro @binS.eq_6 @binS.eq_7) (And.intro @binS.eq_8 @fillE.eq_1)) (And.intro
  (And.intro @fillE.eq_2 @evRes.eq_1) (And.intro @evRes.eq_2 @evRes.eq_3)))))):=And.intro PB ( And.intro (And.intro (And.intro (And.intro @binI.eq_1 (And.intro @binI.eq_2 @binI.eq_3)) (And.intro (And.intro @binI.eq_4 @binI.eq_5) (And.intro @binI.eq_6
  @binI.eq_7))) (And.intro (And.intro (And.intro @binI.eq_8 @binI.eq_9) (And.intro @binI.eq_10 @binI.eq_11)) (And.intro (And.intro @binI.eq_12 @binI.eq_13)
  (And.intro @binI.eq_14 @binI.eq_15)))) (And.intro (And.intro (And.intro @binI.eq_16 (And.intro @binI.eq_17 @binS.eq_1)) (And.intro (And.intro @binS.eq_2
  @binS.eq_3) (And.intro @binS.eq_4 @binS.eq_5))) (And.intro (And.intro (And.intro @binS.eq_6 @binS.eq_7) (And.intro @binS.eq_8 @fillE.eq_1)) (And.intro
  (And.intro @fillE.eq_2 @evRes.eq_1) (And.intro @evRes.eq_2 @evRes.eq_3)))))
end Go.Proofs.YtkfbkooobfepeaaGreatDoor

/- The tables that the program reads: the round constants of SHA-256. -/
namespace Go.Proofs.YtkfbkooobfepeaaGreatDoor
open Go Go.Sx
def u32 (n:Int):SV:=.int .u32 n
def kc:List Int:=[0x428a2f98,0x71374491,0xb5c0fbcf,0xe9b5dba5,0x3956c25b,0x59f111f1,0x923f82a4,0xab1c5ed5,
  0xd807aa98,0x12835b01,0x243185be,0x550c7dc3,0x72be5d74,0x80deb1fe,0x9bdc06a7,0xc19bf174,
  0xe49b69c1,0xefbe4786,0x0fc19dc6,0x240ca1cc,0x2de92c6f,0x4a7484aa,0x5cb0a9dc,0x76f988da,
  0x983e5152,0xa831c66d,0xb00327c8,0xbf597fc7,0xc6e00bf3,0xd5a79147,0x06ca6351,0x14292967,
  0x27b70a85,0x2e1b2138,0x4d2c6dfc,0x53380d13,0x650a7354,0x766a0abb,0x81c2c92e,0x92722c85,
  0xa2bfe8a1,0xa81a664b,0xc24b8b70,0xc76c51a3,0xd192e819,0xd6990624,0xf40e3585,0x106aa070,
  0x19a4c116,0x1e376c08,0x2748774c,0x34b0bcb5,0x391c0cb3,0x4ed8aa4a,0x5b9cca4f,0x682e6ff3,
  0x748f82ee,0x78a5636f,0x84c87814,0x8cc70208,0x90befffa,0xa4506ceb,0xbef9a3f7,0xc67178f2]
def tH:List (Nat × List SV):=[(1,kc.map u32)]
def R64 (n:Int):Prop:=-9223372036854775808≤n∧n≤9223372036854775807
end Go.Proofs.YtkfbkooobfepeaaGreatDoor

/- The functions of the program that are walked through, written out for the engine (printed by wip/tools/Print.lean from the dump), and the kernel's check of each against the program. -/
namespace Go.Proofs.YtkfbkooobfepeaaGreatDoor.Sf
open Go Go.Sx
def om (d:Nat) (x:Opd) (k:List Nat):Opr:=⟨some d,.mv x,none,k,[],[]⟩
def oq (d:Nat) (o:SOp) (k:List Nat):Opr:=⟨some d,o,none,k,[],[]⟩
def og (d:Nat) (o:SOp) (g:Nat) (b:Bool) (k:List Nat):Opr:=⟨some d,o,some (g,b),k,[],[]⟩
def oh (d:Nat) (o:SOp) (k p h:List Nat):Opr:=⟨some d,o,none,k,p,h⟩
def ov (o:SOp) (k:List Nat):Opr:=⟨none,o,none,k,[],[]⟩
set_option maxRecDepth 100000
set_option linter.unusedSimpArgs false
set_option linter.unusedVariables false
def sf9:SF:=⟨110,[.t 0],.seq (.reg [om 0 (.c (.bool false)) [0]]) (.seq (.reg [oq 12 (.call 12 []) [],oq 1 (.new 34 [.int .i64 0,.int .i64 0,.val (.slice none 0 0)]) [],ov (.store 3 (.t 1)
  (.t 12)) [12]]) (.seq (.reg [oq 13 (.call 12 []) [],oq 2 (.new 34 [.int .i64 0,.int .i64 0,.val (.slice none 0 0)]) [],ov (.store 3 (.t 2) (.t 13)) [13]]) (.seq (.reg [oq 14 (.fld (.t 2)
  1) [],ov (.store 1 (.t 14) (.c (.int .i64 3))) [14]]) (.seq (.regW 10 [oh 16 (.load (some 3) (.t 1)) [] [] [3,17,18,19],oh 17 (.fld (.t 1) 2) [] [] [3,16],oh 18 (.load none (.t 17)
 ) [] [1] [3,16],oh 19 (.slcS 18 (.t 18) (some (.c (.int .i64 1))) none) [] [1,2] [3,16],oh 20 (.call 13 [.t 16,.c (.int .i64 1),.t 19]) [] [0,1,2,3] [3],oh 15 (.mv (.t 20)) [] [0,1,
 2,3,4] [3],oh 21 (.ext (.t 15) 0) [] [0,1,2,3,4,5] [3,22],oh 22 (.ext (.t 15) 1) [] [0,1,2,3,4,5] [3,21],oh 3 (.new 34 [.int .i64 0,.int .i64 0,.val (.slice none 0 0)]) [] [] [15,16,
 17,18,19,20,21,22],⟨none,.store 3 (.t 3) (.t 21),none,[15,16,17,18,19,20,21],[0,1,2,3,4,5,6,8],[22]⟩,oh 4 (.mv (.t 22)) [22] [0,1,2,3,4,5,6,7,8,9] []]) (.seq (.reg [oq 24 (.load (some 3)
  (.t 1)) [],oq 25 (.call 8 [.t 24,.c (.int .i64 2),.c (.str []),.c (.str [])]) [24],om 23 (.t 25) [25],oq 26 (.ext (.t 23) 0) [],oq 27 (.ext (.t 23) 1) [23],om 5 (.t 26) [5,26],om 6 (.t 27)
  [27]]) (.seq (.reg [oq 29 (.load (some 3) (.t 1)) [],oq 30 (.call 8 [.t 29,.c (.int .i64 0),.c (.str []),.c (.str [])]) [29],om 28 (.t 30) [30],oq 31 (.ext (.t 28) 0) [],oq 32 (.ext (.t 28)
  1) [28],om 7 (.t 31) [7,31],om 8 (.t 32) [32]]) (.seq (.reg [oq 34 (.load (some 3) (.t 1)) [],oq 35 (.call 15 [.t 34]) [34],oq 36 (.call 14 [.t 35]) [35],om 33 (.t 36) [36],oq 37 (.ext (.t 33)
  0) [],oq 38 (.ext (.t 33) 1) [33],oq 9 (.new 34 [.int .i64 0,.int .i64 0,.val (.slice none 0 0)]) [],ov (.store 3 (.t 9) (.t 37)) [37],om 10 (.t 38) [38]]) (.seq (.reg [oq 39 (.build [.int .u8 0,
 .int .u8 0,.int .u8 0,.int .u8 0,.int .u8 0,.int .u8 0,.int .u8 0,.int .u8 0,.int .u8 0,.int .u8 0,.int .u8 0,.int .u8 0,.int .u8 0,.int .u8 0,.int .u8 0,.int .u8 0] [(0,1,.c (.int .u8 1)
 )]) [],oq 40 (.build [.int .u8 0,.int .u8 0,.int .u8 0,.int .u8 0,.int .u8 0,.int .u8 0,.int .u8 0,.int .u8 0,.int .u8 0,.int .u8 0,.int .u8 0,.int .u8 0,.int .u8 0,.int .u8 0,.int .u8 0,
 .int .u8 0] [(0,1,.c (.int .u8 4))]) [],oq 41 (.callp 6 [.t 39,.c (.int .i64 2),.c (.int .i64 3),.c (.int .i64 1),.t 40]) [39,40],om 11 (.t 41) [41]]) (.seq (.regD 65 [oq 42 (.load (some 3)
  (.t 1)) [],oh 43 (.call 16 [.t 42]) [] [0] [],oh 44 (.mv (.t 43)) [] [0,1] [],⟨(some 45),.load (some 3) (.t 2),(some (44,true)),[],[0,1,2],[]⟩,⟨(some 46),.call 16 [.t 45],(some (44,
 true)),[],[0,1,2,3],[]⟩,⟨(some 47),.un .not (.t 46),(some (44,true)),[],[0,1,2,3,4],[]⟩,oh 48 (.pick (.t 44) (.t 47) (.c (.bool false))) [] [0,1,2,3,4,5] [],oh 49 (.mv (.t 48)) [] [0,
 1,2,3,4,5,6] [],⟨(some 50),.mv (.t 4),(some (49,true)),[],[0,1,2,3,4,5,6,7],[]⟩,⟨(some 51),.bin .eql (.t 50) (.c (.int .i64 0)),(some (49,true)),[],[0,1,2,3,4,5,6,7,8],[]⟩,oh 52 (.pick (.t 49)
  (.t 51) (.c (.bool false))) [] [0,1,2,3,4,5,6,7,8,9] [],oh 53 (.mv (.t 52)) [] [0,1,2,3,4,5,6,7,8,9,10] [],⟨(some 54),.fld (.t 3) 0,(some (53,true)),[],[0,1,2,3,4,5,6,7,8,9,10,11],
 []⟩,⟨(some 55),.load none (.t 54),(some (53,true)),[],[0,1,2,3,4,5,6,7,8,9,10,11,12],[]⟩,⟨(some 56),.bin .eql (.t 55) (.c (.int .i64 1)),(some (53,true)),[],[0,1,2,3,4,5,6,7,8,9,10,
 11,12,13],[]⟩,oh 57 (.pick (.t 53) (.t 56) (.c (.bool false))) [] [0,1,2,3,4,5,6,7,8,9,10,11,12,13,14] [],oh 58 (.mv (.t 57)) [] [0,1,2,3,4,5,6,7,8,9,10,11,12,13,14,15] [],⟨(some 59)
 ,.fld (.t 3) 1,(some (58,true)),[],[0,1,2,3,4,5,6,7,8,9,10,11,12,13,14,15,16],[]⟩,⟨(some 60),.load none (.t 59),(some (58,true)),[],[0,1,2,3,4,5,6,7,8,9,10,11,12,13,14,15,16,17],[]⟩,
 ⟨(some 61),.bin .eql (.t 60) (.c (.int .i64 1)),(some (58,true)),[],[0,1,2,3,4,5,6,7,8,9,10,11,12,13,14,15,16,17,18],[]⟩,oh 62 (.pick (.t 58) (.t 61) (.c (.bool false))) [] [0,1,2,3,
 4,5,6,7,8,9,10,11,12,13,14,15,16,17,18,19] [],oh 63 (.mv (.t 62)) [] [0,1,2,3,4,5,6,7,8,9,10,11,12,13,14,15,16,17,18,19,20] [],⟨(some 64),.fld (.t 3) 2,(some (63,true)),[],[0,1,2,3,
 4,5,6,7,8,9,10,11,12,13,14,15,16,17,18,19,20,21],[]⟩,⟨(some 65),.load none (.t 64),(some (63,true)),[],[0,1,2,3,4,5,6,7,8,9,10,11,12,13,14,15,16,17,18,19,20,21,22],[]⟩,⟨(some 66),.len false (.t 65)
 ,(some (63,true)),[],[0,1,2,3,4,5,6,7,8,9,10,11,12,13,14,15,16,17,18,19,20,21,22,23],[]⟩,⟨(some 67),.bin .eql (.t 66) (.c (.int .i64 1)),(some (63,true)),[],[0,1,2,3,4,5,6,7,8,9,10,
 11,12,13,14,15,16,17,18,19,20,21,22,23,24],[]⟩,oh 68 (.pick (.t 63) (.t 67) (.c (.bool false))) [] [0,1,2,3,4,5,6,7,8,9,10,11,12,13,14,15,16,17,18,19,20,21,22,23,24,25] [],oh 69 (.mv (.t 68)
 ) [] [0,1,2,3,4,5,6,7,8,9,10,11,12,13,14,15,16,17,18,19,20,21,22,23,24,25,26] [],⟨(some 70),.load (some 3) (.t 1),(some (69,true)),[],[0,1,2,3,4,5,6,7,8,9,10,11,12,13,14,15,16,17,18,
 19,20,21,22,23,24,25,26,27],[71,73]⟩,⟨(some 71),.load (some 3) (.t 3),(some (69,true)),[],[0,1,2,3,4,5,6,7,8,9,10,11,12,13,14,15,16,17,18,19,20,21,22,23,24,25,26,27],[70,73]⟩,⟨(some 72)
 ,.call 18 [.t 70,.t 71],(some (69,true)),[],[0,1,2,3,4,5,6,7,8,9,10,11,12,13,14,15,16,17,18,19,20,21,22,23,24,25,26,27,28,29],[73]⟩,⟨(some 73),.bslice 3 1 2 [.int .i64 0,.int .i64 0] [(0,
 1,.c (.int .i64 (-1))),(1,1,.c (.int .i64 0))],(some (69,true)),[],[0,1,2,3,4,5,6,7,8,9,10,11,12,13,14,15,16,17,18,19,20,21,22,23,24,25,26,27],[70,71,72]⟩,⟨(some 74),.call 17 [.t 72,
 .t 73],(some (69,true)),[],[0,1,2,3,4,5,6,7,8,9,10,11,12,13,14,15,16,17,18,19,20,21,22,23,24,25,26,27,28,29,30,31],[]⟩,oh 75 (.pick (.t 69) (.t 74) (.c (.bool false))) [] [0,1,2,3,4,
 5,6,7,8,9,10,11,12,13,14,15,16,17,18,19,20,21,22,23,24,25,26,27,28,29,30,31,32] [],oh 76 (.mv (.t 75)) [] [0,1,2,3,4,5,6,7,8,9,10,11,12,13,14,15,16,17,18,19,20,21,22,23,24,25,26,27,
 28,29,30,31,32,33] [],⟨(some 77),.mv (.t 6),(some (76,true)),[],[0,1,2,3,4,5,6,7,8,9,10,11,12,13,14,15,16,17,18,19,20,21,22,23,24,25,26,27,28,29,30,31,32,33,34],[]⟩,⟨(some 78),.bin .eql (.t 77)
  (.c (.int .i64 11)),(some (76,true)),[],[0,1,2,3,4,5,6,7,8,9,10,11,12,13,14,15,16,17,18,19,20,21,22,23,24,25,26,27,28,29,30,31,32,33,34,35],[]⟩,oh 79 (.pick (.t 76) (.t 78) (.c (.bool false)
 )) [] [0,1,2,3,4,5,6,7,8,9,10,11,12,13,14,15,16,17,18,19,20,21,22,23,24,25,26,27,28,29,30,31,32,33,34,35,36] [],oh 80 (.mv (.t 79)) [] [0,1,2,3,4,5,6,7,8,9,10,11,12,13,14,15,16,17,18,
 19,20,21,22,23,24,25,26,27,28,29,30,31,32,33,34,35,36,37] [],⟨(some 81),.mv (.t 8),(some (80,true)),[],[0,1,2,3,4,5,6,7,8,9,10,11,12,13,14,15,16,17,18,19,20,21,22,23,24,25,26,27,28,
 29,30,31,32,33,34,35,36,37,38],[]⟩,⟨(some 82),.bin .eql (.t 81) (.c (.int .i64 5)),(some (80,true)),[],[0,1,2,3,4,5,6,7,8,9,10,11,12,13,14,15,16,17,18,19,20,21,22,23,24,25,26,27,28,
 29,30,31,32,33,34,35,36,37,38,39],[]⟩,oh 83 (.pick (.t 80) (.t 82) (.c (.bool false))) [] [0,1,2,3,4,5,6,7,8,9,10,11,12,13,14,15,16,17,18,19,20,21,22,23,24,25,26,27,28,29,30,31,32,33,
 34,35,36,37,38,39,40] [],oh 84 (.mv (.t 83)) [] [0,1,2,3,4,5,6,7,8,9,10,11,12,13,14,15,16,17,18,19,20,21,22,23,24,25,26,27,28,29,30,31,32,33,34,35,36,37,38,39,40,41] [],⟨(some 85),.mv (.t 10)
 ,(some (84,true)),[],[0,1,2,3,4,5,6,7,8,9,10,11,12,13,14,15,16,17,18,19,20,21,22,23,24,25,26,27,28,29,30,31,32,33,34,35,36,37,38,39,40,41,42],[]⟩,⟨(some 86),.bin .eql (.t 85) (.c (.int .i64 0)
 ),(some (84,true)),[],[0,1,2,3,4,5,6,7,8,9,10,11,12,13,14,15,16,17,18,19,20,21,22,23,24,25,26,27,28,29,30,31,32,33,34,35,36,37,38,39,40,41,42,43],[]⟩,oh 87 (.pick (.t 84) (.t 86) (.c (.bool false)
 )) [] [0,1,2,3,4,5,6,7,8,9,10,11,12,13,14,15,16,17,18,19,20,21,22,23,24,25,26,27,28,29,30,31,32,33,34,35,36,37,38,39,40,41,42,43,44] [],oh 88 (.mv (.t 87)) [] [0,1,2,3,4,5,6,7,8,9,10,
 11,12,13,14,15,16,17,18,19,20,21,22,23,24,25,26,27,28,29,30,31,32,33,34,35,36,37,38,39,40,41,42,43,44,45] [],⟨(some 89),.load (some 3) (.t 9),(some (88,true)),[],[0,1,2,3,4,5,6,7,8,
 9,10,11,12,13,14,15,16,17,18,19,20,21,22,23,24,25,26,27,28,29,30,31,32,33,34,35,36,37,38,39,40,41,42,43,44,45,46],[90]⟩,⟨(some 90),.load (some 3) (.t 1),(some (88,true)),[],[0,1,2,3,
 4,5,6,7,8,9,10,11,12,13,14,15,16,17,18,19,20,21,22,23,24,25,26,27,28,29,30,31,32,33,34,35,36,37,38,39,40,41,42,43,44,45,46],[89]⟩,⟨(some 91),.call 19 [.t 89,.t 90],(some (88,true)),
 [],[0,1,2,3,4,5,6,7,8,9,10,11,12,13,14,15,16,17,18,19,20,21,22,23,24,25,26,27,28,29,30,31,32,33,34,35,36,37,38,39,40,41,42,43,44,45,46,47,48],[]⟩,oh 92 (.pick (.t 88) (.t 91) (.c (.bool false)
 )) [] [0,1,2,3,4,5,6,7,8,9,10,11,12,13,14,15,16,17,18,19,20,21,22,23,24,25,26,27,28,29,30,31,32,33,34,35,36,37,38,39,40,41,42,43,44,45,46,47,48,49] [],oh 93 (.mv (.t 92)) [] [0,1,2,
 3,4,5,6,7,8,9,10,11,12,13,14,15,16,17,18,19,20,21,22,23,24,25,26,27,28,29,30,31,32,33,34,35,36,37,38,39,40,41,42,43,44,45,46,47,48,49,50] [],⟨(some 94),.mv (.t 11),(some (93,true)),
 [],[0,1,2,3,4,5,6,7,8,9,10,11,12,13,14,15,16,17,18,19,20,21,22,23,24,25,26,27,28,29,30,31,32,33,34,35,36,37,38,39,40,41,42,43,44,45,46,47,48,49,50,51],[]⟩,⟨(some 95),.len true (.t 94)
 ,(some (93,true)),[],[0,1,2,3,4,5,6,7,8,9,10,11,12,13,14,15,16,17,18,19,20,21,22,23,24,25,26,27,28,29,30,31,32,33,34,35,36,37,38,39,40,41,42,43,44,45,46,47,48,49,50,51,52],[]⟩,⟨(some 96)
 ,.bin .gtr (.t 95) (.c (.int .i64 39)),(some (93,true)),[],[0,1,2,3,4,5,6,7,8,9,10,11,12,13,14,15,16,17,18,19,20,21,22,23,24,25,26,27,28,29,30,31,32,33,34,35,36,37,38,39,40,41,42,43,
 44,45,46,47,48,49,50,51,52,53],[]⟩,oh 97 (.pick (.t 93) (.t 96) (.c (.bool false))) [] [0,1,2,3,4,5,6,7,8,9,10,11,12,13,14,15,16,17,18,19,20,21,22,23,24,25,26,27,28,29,30,31,32,33,34,
 35,36,37,38,39,40,41,42,43,44,45,46,47,48,49,50,51,52,53,54] [],oh 98 (.mv (.t 97)) [] [0,1,2,3,4,5,6,7,8,9,10,11,12,13,14,15,16,17,18,19,20,21,22,23,24,25,26,27,28,29,30,31,32,33,34,
 35,36,37,38,39,40,41,42,43,44,45,46,47,48,49,50,51,52,53,54,55] [],⟨(some 99),.mv (.t 11),(some (98,true)),[],[0,1,2,3,4,5,6,7,8,9,10,11,12,13,14,15,16,17,18,19,20,21,22,23,24,25,26,
 27,28,29,30,31,32,33,34,35,36,37,38,39,40,41,42,43,44,45,46,47,48,49,50,51,52,53,54,55,56],[]⟩,⟨(some 100),.slcT (.t 99) none (some (.c (.int .i64 7))),(some (98,true)),[],[0,1,2,3,
 4,5,6,7,8,9,10,11,12,13,14,15,16,17,18,19,20,21,22,23,24,25,26,27,28,29,30,31,32,33,34,35,36,37,38,39,40,41,42,43,44,45,46,47,48,49,50,51,52,53,54,55,56,57],[]⟩,⟨(some 101),.bin .eql (.t 100)
  (.c (.str [99,117,115,116,111,100,121])),(some (98,true)),[],[0,1,2,3,4,5,6,7,8,9,10,11,12,13,14,15,16,17,18,19,20,21,22,23,24,25,26,27,28,29,30,31,32,33,34,35,36,37,38,39,40,41,42,
 43,44,45,46,47,48,49,50,51,52,53,54,55,56,57,58],[]⟩,oh 102 (.pick (.t 98) (.t 101) (.c (.bool false))) [] [0,1,2,3,4,5,6,7,8,9,10,11,12,13,14,15,16,17,18,19,20,21,22,23,24,25,26,27,
 28,29,30,31,32,33,34,35,36,37,38,39,40,41,42,43,44,45,46,47,48,49,50,51,52,53,54,55,56,57,58,59] [],oh 103 (.mv (.t 102)) [] [0,1,2,3,4,5,6,7,8,9,10,11,12,13,14,15,16,17,18,19,20,21,
 22,23,24,25,26,27,28,29,30,31,32,33,34,35,36,37,38,39,40,41,42,43,44,45,46,47,48,49,50,51,52,53,54,55,56,57,58,59,60] [],⟨(some 104),.load (some 3) (.t 1),(some (103,true)),[],[0,1,
 2,3,4,5,6,7,8,9,10,11,12,13,14,15,16,17,18,19,20,21,22,23,24,25,26,27,28,29,30,31,32,33,34,35,36,37,38,39,40,41,42,43,44,45,46,47,48,49,50,51,52,53,54,55,56,57,58,59,60,61],[106]⟩,⟨(some 105)
 ,.call 20 [.t 104],(some (103,true)),[],[0,1,2,3,4,5,6,7,8,9,10,11,12,13,14,15,16,17,18,19,20,21,22,23,24,25,26,27,28,29,30,31,32,33,34,35,36,37,38,39,40,41,42,43,44,45,46,47,48,49,
 50,51,52,53,54,55,56,57,58,59,60,61,62],[106]⟩,⟨(some 106),.load (some 3) (.t 3),(some (103,true)),[1,2,3,4,6,8,9,10,11,42,43,44,45,46,47,48,49,50,51,52,53,54,55,56,57,58,59,60,61,62,
 63,64,65,66,67,68,69,70,71,72,73,74,75,76,77,78,79,80,81,82,83,84,85,86,87,88,89,90,91,92,93,94,95,96,97,98,99,100,101,102,104],[0,1,2,3,4,5,6,7,8,9,10,11,12,13,14,15,16,17,18,19,20,
 21,22,23,24,25,26,27,28,29,30,31,32,33,34,35,36,37,38,39,40,41,42,43,44,45,46,47,48,49,50,51,52,53,54,55,56,57,58,59,60,61],[104,105]⟩,⟨(some 107),.call 20 [.t 106],(some (103,true)
 ),[106],[0,1,2,3,4,5,6,7,8,9,10,11,12,13,14,15,16,17,18,19,20,21,22,23,24,25,26,27,28,29,30,31,32,33,34,35,36,37,38,39,40,41,42,43,44,45,46,47,48,49,50,51,52,53,54,55,56,57,58,59,60,
 61,62,63,64],[]⟩,⟨(some 108),.eqv true [.i .u8,.i .u8,.i .u8,.i .u8,.i .u8,.i .u8,.i .u8,.i .u8,.i .u8,.i .u8,.i .u8,.i .u8,.i .u8,.i .u8,.i .u8,.i .u8] (.t 105) (.t 107),(some (103,
 true)),[105,107],[0,1,2,3,4,5,6,7,8,9,10,11,12,13,14,15,16,17,18,19,20,21,22,23,24,25,26,27,28,29,30,31,32,33,34,35,36,37,38,39,40,41,42,43,44,45,46,47,48,49,50,51,52,53,54,55,56,57,
 58,59,60,61,62,63,64,65],[]⟩,oh 109 (.pick (.t 103) (.t 108) (.c (.bool false))) [103,108] [0,1,2,3,4,5,6,7,8,9,10,11,12,13,14,15,16,17,18,19,20,21,22,23,24,25,26,27,28,29,30,31,32,
 33,34,35,36,37,38,39,40,41,42,43,44,45,46,47,48,49,50,51,52,53,54,55,56,57,58,59,60,61,62,63,64,65,66] [],oh 0 (.mv (.t 109)) [109] [0,1,2,3,4,5,6,7,8,9,10,11,12,13,14,15,16,17,18,19,
 20,21,22,23,24,25,26,27,28,29,30,31,32,33,34,35,36,37,38,39,40,41,42,43,44,45,46,47,48,49,50,51,52,53,54,55,56,57,58,59,60,61,62,63,64,65,66,67] []]) (.ret))))))))))⟩
theorem chk9:chkF Tryz.prog 5 sf9=true:=by kernel_rfl

def sf10:SF:=⟨26,[.c 6 (some 3),.t 7],.seq (.reg [oq 3 (.box 34 (.t 0)) [0],oq 6 (.new 34 [.int .i64 0,.int .i64 0,.val (.slice none 0 0)]) [],om 7 (.c (.int .i64 0)) [7]]) (.seq (.regD 8 [oh 9 (.fld (.t 3)
  0) [] [] [8,12,13,14],oh 10 (.load none (.t 9)) [] [0] [8,12,13,14],oh 11 (.bin .add (.t 10) (.c (.int .i64 1))) [] [0,1] [8,12,13,14],oh 12 (.mv (.t 1)) [] [] [8,9,10,11,13,14],oh 13 (.mv (.t 2)
 ) [] [] [8,9,10,11,12],oh 14 (.call 37 [.t 13]) [] [4] [8,9,10,11,12],oh 15 (.build [.int .i64 0,.int .i64 0,.val (.slice none 0 0)] [(0,1,.t 11),(1,1,.t 12),(2,1,.t 14)]) [] [0,1,2,
 3,4,5] [8],oh 8 (.new 34 [.int .i64 0,.int .i64 0,.val (.slice none 0 0)]) [1,2,9,10,11,12,13,14] [] [9,10,11,12,13,14,15],⟨none,.store 3 (.t 8) (.t 15),none,[15],[0,1,2,3,4,5,6,7],
 []⟩]) (.seq (.seq (.reg [oq 16 (.load (some 3) (.t 3)) [3],oq 17 (.call 16 [.t 16]) [16],oq 18 (.un .not (.t 17)) [17],om 19 (.t 18) [18],og 20 (.load (some 3) (.t 8)) 19 false [],og 21 (.call 16 [.t 20])
  19 false [20],og 22 (.un .not (.t 21)) 19 false [21],oq 23 (.pick (.t 19) (.c (.bool true)) (.t 22)) [19,22]]) (.cond (.t 23) (.seq (.reg [oq 24 (.build [.int .i64 0,.int .i64 0,.val (.slice none 0 0)
 ] []) [],ov (.store 3 (.t 6) (.t 24)) [24],om 7 (.c (.int .i64 1)) []]) (.ret)) (.skip))) (.seq (.reg [oq 25 (.load (some 3) (.t 8)) [8],ov (.store 3 (.t 6) (.t 25)) [25],om 7 (.c (.int .i64 0)
 ) []]) (.ret))))⟩
theorem chk10:chkF Tryz.prog 13 sf10=true:=by kernel_rfl

def sf12:SF:=⟨82,[.t 2],.seq (.reg [oq 1 (.box 34 (.t 0)) [0],om 2 (.c (.bool false)) [2]]) (.seq (.reg [oq 8 (.mkmap none) [],oq 9 (.mkmap (some 16)) [],om 3 (.t 8) [8],om 4 (.t 9)
  [9]]) (.seq (.seq (.reg [oq 10 (.fld (.t 1) 2) [],oq 11 (.load none (.t 10)) [10],oq 12 (.len false (.t 11)) [],om 13 (.c (.int .i64 0)) []]) (.block 0 (.loop (.seq (.reg [oq 14 (.bin .lss (.t 13)
  (.t 12)) []]) (.seq (.cond (.t 14) (.skip) (.exit 0)) (.seq (.block 1 (.seq (.reg [oq 15 (.idxS (.t 11) (.t 13) 18) [],oq 16 (.load (some 18) (.t 15)) [15],oq 6 (.new 31 [.str [],.int .u8 0,
 .int .u8 0,.int .u8 0,.int .u8 0,.int .u8 0,.int .u8 0,.int .u8 0,.int .u8 0,.int .u8 0,.int .u8 0,.int .u8 0,.int .u8 0,.int .u8 0,.int .u8 0,.int .u8 0,.int .u8 0,.int .i64 0]) [],
 ov (.store 18 (.t 6) (.t 16)) [16]]) (.seq (.seq (.reg [oq 17 (.fld (.t 6) 0) [],oq 18 (.load none (.t 17)) [17],oq 19 (.len true (.t 18)) [18],oq 20 (.bin .lss (.t 19) (.c (.int .i64 1)
 )) [19],om 21 (.t 20) [20],og 22 (.fld (.t 6) 0) 21 false [],og 23 (.load none (.t 22)) 21 false [22],og 24 (.len true (.t 23)) 21 false [23],og 25 (.bin .gtr (.t 24) (.c (.int .i64 12)
 )) 21 false [24],oq 26 (.pick (.t 21) (.c (.bool true)) (.t 25)) [21,25],om 27 (.t 26) [26],og 28 (.fld (.t 6) 17) 27 false [],og 29 (.load none (.t 28)) 27 false [28],og 30 (.bin .lss (.t 29)
  (.c (.int .i64 0))) 27 false [29],oq 31 (.pick (.t 27) (.c (.bool true)) (.t 30)) [27,30],om 32 (.t 31) [31],og 33 (.fld (.t 6) 17) 32 false [],og 34 (.load none (.t 33)) 32 false [33],
 og 35 (.bin .gtr (.t 34) (.c (.int .i64 6))) 32 false [34],oq 36 (.pick (.t 32) (.c (.bool true)) (.t 35)) [32,35]]) (.cond (.t 36) (.seq (.reg [om 2 (.c (.bool false)) []]) (.ret))
  (.skip))) (.regW 7 [oh 37 (.mv (.t 3)) [] [] [38,39,40,41,42],oh 38 (.fld (.t 6) 0) [] [] [37,40,41,42],oh 39 (.load none (.t 38)) [] [1] [37,40,41,42],oh 40 (.mv (.t 4)) [] [] [37,
 38,39,41,42],oh 41 (.fld (.t 6) 1) [] [] [37,38,39,40],oh 42 (.load (some 16) (.t 41)) [] [4] [37,38,39,40],⟨none,.mput none (.t 37) (.t 39),none,[6,37,38,39,41],[0,1,2],[40,41,42]⟩,
 ⟨none,.mput (some 16) (.t 40) (.t 42),none,[40,42],[0,1,2,3,4,5,6],[]⟩])))) (.reg [oq 43 (.bin .add (.t 13) (.c (.int .i64 1))) [13],om 13 (.t 43) [43]]))))))) (.seq (.reg [oq 44 (.fld (.t 1)
  2) [],oq 45 (.load none (.t 44)) [44],oq 46 (.len false (.t 45)) [45],om 7 (.t 46) [46]]) (.seq (.reg [om 47 (.t 3) [3],oq 48 (.mlen (.t 47)) [47],om 49 (.t 7) [],oq 50 (.bin .eql (.t 48)
  (.t 49)) [48,49],om 51 (.t 50) [50],og 52 (.mv (.t 4)) 51 true [4],og 53 (.mlen (.t 52)) 51 true [52],og 54 (.mv (.t 7)) 51 true [],og 55 (.bin .eql (.t 53) (.t 54)) 51 true [53,54],
 oq 56 (.pick (.t 51) (.t 55) (.c (.bool false))) [51,55],om 57 (.t 56) [56],og 58 (.fld (.t 1) 1) 57 true [],og 59 (.load none (.t 58)) 57 true [58],og 60 (.bin .leq (.c (.int .i64 1)
 ) (.t 59)) 57 true [59],oq 61 (.pick (.t 57) (.t 60) (.c (.bool false))) [57,60],om 62 (.t 61) [61],og 63 (.fld (.t 1) 1) 62 true [],og 64 (.load none (.t 63)) 62 true [63],og 65 (.mv (.t 7)
 ) 62 true [],og 66 (.bin .leq (.t 64) (.t 65)) 62 true [64,65],oq 67 (.pick (.t 62) (.t 66) (.c (.bool false))) [62,66],om 68 (.t 67) [67],og 69 (.mv (.t 7)) 68 true [7],og 70 (.bin .leq (.t 69)
  (.c (.int .i64 16))) 68 true [69],oq 71 (.pick (.t 68) (.t 70) (.c (.bool false))) [68,70],om 72 (.t 71) [71],og 73 (.fld (.t 1) 0) 72 true [],og 74 (.load none (.t 73)) 72 true [73],
 og 75 (.bin .leq (.c (.int .i64 0)) (.t 74)) 72 true [74],oq 76 (.pick (.t 72) (.t 75) (.c (.bool false))) [72,75],om 77 (.t 76) [76],og 78 (.fld (.t 1) 0) 77 true [1],og 79 (.load none (.t 78)
 ) 77 true [78],og 80 (.bin .leq (.t 79) (.c (.int .i64 2147483646))) 77 true [79],oq 81 (.pick (.t 77) (.t 80) (.c (.bool false))) [77,80],om 2 (.t 81) [81]]) (.ret)))))⟩
theorem chk12:chkF Tryz.prog 16 sf12=true:=by kernel_rfl

def sf14:SF:=⟨45,[.t 4],.seq (.reg [oq 2 (.box 34 (.t 0)) [0],oq 3 (.box 34 (.t 1)) [1],om 4 (.c (.bool false)) [4]]) (.seq (.seq (.reg [oq 6 (.fld (.t 2) 0) [],oq 7 (.load none (.t 6)
 ) [6],oq 8 (.fld (.t 3) 0) [],oq 9 (.load none (.t 8)) [8],oq 10 (.bin .neq (.t 7) (.t 9)) [7,9],om 11 (.t 10) [10],og 12 (.fld (.t 2) 1) 11 false [],og 13 (.load none (.t 12)) 11 false [12],
 og 14 (.fld (.t 3) 1) 11 false [],og 15 (.load none (.t 14)) 11 false [14],og 16 (.bin .neq (.t 13) (.t 15)) 11 false [13,15],oq 17 (.pick (.t 11) (.c (.bool true)) (.t 16)) [11,16],
 om 18 (.t 17) [17],og 19 (.fld (.t 2) 2) 18 false [],og 20 (.load none (.t 19)) 18 false [19],og 21 (.len false (.t 20)) 18 false [20],og 22 (.fld (.t 3) 2) 18 false [],og 23 (.load none (.t 22)
 ) 18 false [22],og 24 (.len false (.t 23)) 18 false [23],og 25 (.bin .neq (.t 21) (.t 24)) 18 false [21,24],oq 26 (.pick (.t 18) (.c (.bool true)) (.t 25)) [18,25]]) (.cond (.t 26) (.seq (.reg [om 4 (.c (.bool false)
 ) []]) (.ret)) (.skip))) (.seq (.seq (.reg [om 5 (.c (.int .i64 0)) []]) (.block 0 (.loop (.seq (.seq (.reg [om 27 (.t 5) [],oq 28 (.fld (.t 2) 2) [],oq 29 (.load none (.t 28)) [28],
 oq 30 (.len false (.t 29)) [29],oq 31 (.bin .lss (.t 27) (.t 30)) [27,30]]) (.cond (.t 31) (.skip) (.exit 0))) (.seq (.block 1 (.seq (.regP 10 [oh 34 (.fld (.t 2) 2) [] [] [36,39,40,
 41,42,43],oh 35 (.load none (.t 34)) [] [0] [36,39,40,41,42,43],oh 36 (.mv (.t 5)) [] [] [34,35,39,40,41,42,43],oh 37 (.idxS (.t 35) (.t 36) 18) [] [0,1,2] [39,40,41,42,43],oh 38 (.load (some 18)
  (.t 37)) [] [0,1,2,3] [39,40,41,42,43],oh 39 (.fld (.t 3) 2) [] [] [34,35,36,37,38,41],oh 40 (.load none (.t 39)) [] [5] [34,35,36,37,38,41],oh 41 (.mv (.t 5)) [] [] [34,35,36,37,38,
 39,40],oh 42 (.idxS (.t 40) (.t 41) 18) [] [5,6,7] [34,35,36,37,38],oh 43 (.load (some 18) (.t 42)) [34,35,36,37,39,40,41,42] [5,6,7,8] [34,35,36,37,38],oh 44 (.eqv true [.s,.i .u8,
 .i .u8,.i .u8,.i .u8,.i .u8,.i .u8,.i .u8,.i .u8,.i .u8,.i .u8,.i .u8,.i .u8,.i .u8,.i .u8,.i .u8,.i .u8,.i .i64] (.t 38) (.t 43)) [38,43] [0,1,2,3,4,5,6,7,8,9] []]) (.cond (.t 44) (.seq (.reg [om 4 (.c (.bool false)
 ) []]) (.ret)) (.skip)))) (.reg [om 32 (.t 5) [5],oq 33 (.bin .add (.t 32) (.c (.int .i64 1))) [32],om 5 (.t 33) [33]])))))) (.seq (.reg [om 4 (.c (.bool true)) []]) (.ret))))⟩
theorem chk14:chkF Tryz.prog 19 sf14=true:=by kernel_rfl

def sf15:SF:=⟨26,[.t 4],.seq (.reg [om 4 (.c (.bool false)) [4]]) (.seq (.seq (.reg [om 6 (.t 0) [],oq 7 (.len false (.t 6)) [6],om 8 (.t 1) [],oq 9 (.len false (.t 8)) [8],oq 10 (.bin .neq (.t 7)
  (.t 9)) [7,9]]) (.cond (.t 10) (.seq (.reg [om 4 (.c (.bool false)) []]) (.ret)) (.skip))) (.seq (.seq (.reg [om 5 (.c (.int .i64 0)) []]) (.block 0 (.loop (.seq (.seq (.reg [om 11 (.t 5)
  [],om 12 (.t 0) [],oq 13 (.len false (.t 12)) [12],oq 14 (.bin .lss (.t 11) (.t 13)) [11,13]]) (.cond (.t 14) (.skip) (.exit 0))) (.seq (.block 1 (.seq (.regP 8 [oh 17 (.mv (.t 0))
  [] [] [18,21,22,23,24],oh 18 (.mv (.t 5)) [] [] [17,21,22,23,24],oh 19 (.idxS (.t 17) (.t 18) 1) [] [0,1] [21,22,23,24],oh 20 (.load none (.t 19)) [] [0,1,2] [21,22,23,24],oh 21 (.mv (.t 1)
 ) [] [] [17,18,19,20,22],oh 22 (.mv (.t 5)) [] [] [17,18,19,20,21],oh 23 (.idxS (.t 21) (.t 22) 1) [] [4,5] [17,18,19,20],oh 24 (.load none (.t 23)) [17,18,19,21,22,23] [4,5,6] [17,
 18,19,20],oh 25 (.bin .neq (.t 20) (.t 24)) [20,24] [0,1,2,3,4,5,6,7] []]) (.cond (.t 25) (.seq (.reg [om 4 (.c (.bool false)) []]) (.ret)) (.skip)))) (.reg [om 15 (.t 5) [5],oq 16 (.bin .add (.t 15)
  (.c (.int .i64 1))) [15],om 5 (.t 16) [16]])))))) (.seq (.reg [om 4 (.c (.bool true)) []]) (.ret))))⟩
theorem chk15:chkF Tryz.prog 17 sf15=true:=by kernel_rfl

def sf16:SF:=⟨23,[.t 4],.seq (.reg [oq 2 (.box 34 (.t 0)) [0],oq 3 (.box 34 (.t 1)) [1],om 4 (.c (.val (.slice none 0 0))) []]) (.seq (.seq (.reg [oq 7 (.fld (.t 2) 2) [2],oq 8 (.load none (.t 7)
 ) [7],oq 9 (.len false (.t 8)) [],om 10 (.c (.int .i64 0)) []]) (.block 0 (.loop (.seq (.reg [oq 11 (.bin .lss (.t 10) (.t 9)) []]) (.seq (.cond (.t 11) (.skip) (.exit 0)) (.seq (.block 1 (.seq (.reg [oq 12 (.idxS (.t 8)
  (.t 10) 18) [],oq 13 (.load (some 18) (.t 12)) [12],oq 6 (.new 31 [.str [],.int .u8 0,.int .u8 0,.int .u8 0,.int .u8 0,.int .u8 0,.int .u8 0,.int .u8 0,.int .u8 0,.int .u8 0,.int .u8 0,
 .int .u8 0,.int .u8 0,.int .u8 0,.int .u8 0,.int .u8 0,.int .u8 0,.int .i64 0]) [],ov (.store 18 (.t 6) (.t 13)) [13]]) (.reg [om 14 (.t 4) [4],oq 15 (.fld (.t 3) 2) [],oq 16 (.load none (.t 15)
 ) [15],oq 17 (.load (some 18) (.t 6)) [6],oq 18 (.call 45 [.t 16,.t 17]) [16,17],oq 19 (.bslice 3 1 1 [.int .i64 0] [(0,1,.t 18)]) [18],oq 20 (.app 3 1 8 (.t 14) (.t 19)) [14,19],om 4 (.t 20)
  [20]]))) (.reg [oq 21 (.bin .add (.t 10) (.c (.int .i64 1))) [10],om 10 (.t 21) [21]]))))))) (.seq (.reg [om 22 (.t 4) [4],om 4 (.t 22) [22]]) (.ret)))⟩
theorem chk16:chkF Tryz.prog 18 sf16=true:=by kernel_rfl

def sf18:SF:=⟨36,[.t 2],.seq (.reg [oq 1 (.box 34 (.t 0)) [0],om 2 (.c (.str [])) [2]]) (.seq (.reg [oq 6 (.fld (.t 1) 0) [],oq 7 (.load none (.t 6)) [6],oq 8 (.fld (.t 1) 1) [],
 oq 9 (.load none (.t 8)) [8],oq 10 (.fld (.t 1) 2) [],oq 11 (.load none (.t 10)) [10],oq 12 (.len false (.t 11)) [11],oq 13 (.bslice 3 1 3 [.int .i64 0,.int .i64 0,.int .i64 0] [(0,
 1,.t 7),(1,1,.t 9),(2,1,.t 12)]) [7,9,12],oq 14 (.call 21 [.t 13]) [13],om 3 (.t 14) [14]]) (.seq (.seq (.reg [oq 15 (.fld (.t 1) 2) [1],oq 16 (.load none (.t 15)) [15],oq 17 (.len false (.t 16)
 ) [],om 18 (.c (.int .i64 0)) []]) (.block 0 (.loop (.seq (.reg [oq 19 (.bin .lss (.t 18) (.t 17)) []]) (.seq (.cond (.t 19) (.skip) (.exit 0)) (.seq (.block 1 (.seq (.reg [oq 20 (.idxS (.t 16)
  (.t 18) 18) [],oq 21 (.load (some 18) (.t 20)) [20],oq 5 (.new 31 [.str [],.int .u8 0,.int .u8 0,.int .u8 0,.int .u8 0,.int .u8 0,.int .u8 0,.int .u8 0,.int .u8 0,.int .u8 0,.int .u8 0,
 .int .u8 0,.int .u8 0,.int .u8 0,.int .u8 0,.int .u8 0,.int .u8 0,.int .i64 0]) [],ov (.store 18 (.t 5) (.t 21)) [21]]) (.regD 9 [oh 22 (.mv (.t 3)) [] [] [23,24,25,26,27,28,29,30],
 oh 23 (.fld (.t 5) 0) [] [] [22,26,27,28,29],oh 24 (.load none (.t 23)) [] [1] [22,26,27,28,29],oh 25 (.call 43 [.t 24]) [] [1,2] [22,26,27,28,29],oh 26 (.fld (.t 5) 1) [] [] [22,23,
 24,25,28,29,30],oh 27 (.slcA 16 1 (.t 26) none none) [] [4] [22,23,24,25,28,29,30],oh 28 (.fld (.t 5) 17) [] [] [22,23,24,25,26,27],oh 29 (.load none (.t 28)) [] [6] [22,23,24,25,26,
 27],oh 30 (.call 44 [.t 29]) [3,5,23,24,26,28,29] [1,2,3,6,7] [22,26,27],oh 31 (.bslice 55 1 4 [.val (.slice none 0 0),.val (.slice none 0 0),.val (.slice none 0 0),.val (.slice none 0 0)
 ] [(0,1,.t 22),(1,1,.t 25),(2,1,.t 27),(3,1,.t 30)]) [22,25,27,30] [0,1,2,3,4,5,6,7,8] [],oh 32 (.call 22 [.t 31]) [31] [0,1,2,3,4,5,6,7,8,9] [],oh 3 (.mv (.t 32)) [32] [0,1,2,3,4,5,
 6,7,8,9,10] []]))) (.reg [oq 33 (.bin .add (.t 18) (.c (.int .i64 1))) [18],om 18 (.t 33) [33]]))))))) (.seq (.reg [om 34 (.t 3) [3],oq 35 (.b2s (.t 34)) [34],om 2 (.t 35) [35]]) (.ret)
 )))⟩
theorem chk18:chkF Tryz.prog 15 sf18=true:=by kernel_rfl

def sf20:SF:=⟨7,[.c 2 (some 16)],.seq (.reg [oq 1 (.box 34 (.t 0)) [0],oq 2 (.new 23 [.int .u8 0,.int .u8 0,.int .u8 0,.int .u8 0,.int .u8 0,.int .u8 0,.int .u8 0,.int .u8 0,.int .u8 0,
 .int .u8 0,.int .u8 0,.int .u8 0,.int .u8 0,.int .u8 0,.int .u8 0,.int .u8 0]) []]) (.seq (.reg [oq 3 (.load (some 3) (.t 1)) [1],oq 4 (.call 15 [.t 3]) [3],oq 5 (.bslice 9 1 1 [.str []] [(0,
 1,.t 4)]) [4],oq 6 (.call 46 [.c (.int .i64 12),.t 5]) [5],ov (.store 16 (.t 2) (.t 6)) [6]]) (.ret))⟩
theorem chk20:chkF Tryz.prog 20 sf20=true:=by kernel_rfl

def sf22:SF:=⟨34,[.t 8,.t 9],.seq (.reg [oq 4 (.box 34 (.t 0)) [0],om 8 (.c (.int .i64 0)) [8],om 9 (.c (.int .i64 0)) [9]]) (.seq (.seq (.reg [om 11 (.t 1) [],oq 12 (.bin .lss (.t 11)
  (.c (.int .i64 0))) [11],om 13 (.t 12) [12],og 14 (.mv (.t 1)) 13 false [],og 15 (.fld (.t 4) 2) 13 false [],og 16 (.load none (.t 15)) 13 false [15],og 17 (.len false (.t 16)) 13 false [16],
 og 18 (.bin .geq (.t 14) (.t 17)) 13 false [14,17],oq 19 (.pick (.t 13) (.c (.bool true)) (.t 18)) [13,18]]) (.cond (.t 19) (.seq (.reg [om 8 (.c (.int .i64 0)) [],om 9 (.c (.int .i64 11)
 ) []]) (.ret)) (.skip))) (.seq (.reg [oq 20 (.fld (.t 4) 2) [4],oq 21 (.load none (.t 20)) [20],om 22 (.t 1) [1],oq 23 (.idxS (.t 21) (.t 22) 18) [21,22],oq 24 (.load (some 18) (.t 23)
 ) [23],oq 10 (.new 31 [.str [],.int .u8 0,.int .u8 0,.int .u8 0,.int .u8 0,.int .u8 0,.int .u8 0,.int .u8 0,.int .u8 0,.int .u8 0,.int .u8 0,.int .u8 0,.int .u8 0,.int .u8 0,.int .u8 0,
 .int .u8 0,.int .u8 0,.int .i64 0]) [],ov (.store 18 (.t 10) (.t 24)) [24]]) (.seq (.reg [oq 25 (.fld (.t 10) 1) [],oq 26 (.load (some 16) (.t 25)) [25],oq 27 (.fld (.t 10) 17) [10],
 oq 28 (.load none (.t 27)) [27],om 29 (.t 2) [2],om 30 (.t 3) [3],oq 31 (.callp 30 [.t 26,.t 28,.t 29,.t 30]) [26,28,29,30],oq 32 (.ext (.t 31) 0) [],oq 33 (.ext (.t 31) 1) [31],om 8 (.t 32)
  [32],om 9 (.t 33) [33]]) (.ret))))⟩
theorem chk22:chkF Tryz.prog 8 sf22=true:=by kernel_rfl

def sf23:SF:=⟨36,[.t 8,.t 9],.seq (.reg [oq 4 (.box 34 (.t 0)) [0],om 8 (.c (.int .i64 0)) [8],om 9 (.c (.int .i64 0)) [9]]) (.seq (.seq (.reg [om 10 (.t 1) [],oq 11 (.bin .lss (.t 10)
  (.c (.int .i64 0))) [10],om 12 (.t 11) [11],og 13 (.mv (.t 1)) 12 false [],og 14 (.fld (.t 4) 2) 12 false [],og 15 (.load none (.t 14)) 12 false [14],og 16 (.len false (.t 15)) 12 false [15],
 og 17 (.bin .geq (.t 13) (.t 16)) 12 false [13,16],oq 18 (.pick (.t 12) (.c (.bool true)) (.t 17)) [12,17]]) (.cond (.t 18) (.seq (.reg [om 8 (.c (.int .i64 0)) [],om 9 (.c (.int .i64 11)
 ) []]) (.ret)) (.skip))) (.seq (.regP 17 [oh 19 (.fld (.t 4) 2) [] [] [21,25,26,27,28,29,30,31,32],oh 20 (.load none (.t 19)) [] [0] [21,25,26,27,28,29,30,31,32],oh 21 (.mv (.t 1)) [] [] [19,
 20,25,26,27,28,29,30,31,32],oh 22 (.idxS (.t 20) (.t 21) 18) [] [0,1,2] [25,26,27,28,29,30,31,32],oh 23 (.fld (.t 22) 1) [] [0,1,2,3] [25,26,27,28,29,30,31,32],oh 24 (.load (some 16)
  (.t 23)) [] [0,1,2,3,4] [25,26,27,28,29,30,31,32],oh 25 (.fld (.t 4) 2) [] [] [19,20,21,22,23,24,27,31,32],oh 26 (.load none (.t 25)) [] [6] [19,20,21,22,23,24,27,31,32],oh 27 (.mv (.t 1)
 ) [] [] [19,20,21,22,23,24,25,26,31,32],oh 28 (.idxS (.t 26) (.t 27) 18) [] [6,7,8] [19,20,21,22,23,24,31,32],oh 29 (.fld (.t 28) 17) [] [6,7,8,9] [19,20,21,22,23,24,31,32],oh 30 (.load none (.t 29)
 ) [] [6,7,8,9,10] [19,20,21,22,23,24,31,32],oh 31 (.mv (.t 2)) [] [] [19,20,21,22,23,24,25,26,27,28,29,30,32],oh 32 (.mv (.t 3)) [] [] [19,20,21,22,23,24,25,26,27,28,29,30,31],oh 33 (.callp 31 [.t 24,
 .t 30,.t 31,.t 32]) [] [0,1,2,3,4,5,6,7,8,9,10,11,12,13] [],oh 34 (.ext (.t 33) 0) [] [0,1,2,3,4,5,6,7,8,9,10,11,12,13,14] [35],oh 35 (.ext (.t 33) 1) [1,2,3,4,19,20,21,22,23,24,25,
 26,27,28,29,30,31,32,33] [0,1,2,3,4,5,6,7,8,9,10,11,12,13,14] [34],oh 8 (.mv (.t 34)) [34] [0,1,2,3,4,5,6,7,8,9,10,11,12,13,14,15,16] [],oh 9 (.mv (.t 35)) [35] [0,1,2,3,4,5,6,7,8,9,
 10,11,12,13,14,15,16,17] []]) (.ret)))⟩
theorem chk23:chkF Tryz.prog 9 sf23=true:=by kernel_rfl

def sf24:SF:=⟨26,[.t 10],.seq (.reg [oq 5 (.box 23 (.t 0)) [0],oq 9 (.box 23 (.t 4)) [4],om 10 (.c (.str [])) [10]]) (.seq (.reg [oq 12 (.bslice 5 1 7 [.int .u8 0,.int .u8 0,.int .u8 0,
 .int .u8 0,.int .u8 0,.int .u8 0,.int .u8 0] [(0,1,.c (.int .u8 99)),(1,1,.c (.int .u8 117)),(2,1,.c (.int .u8 115)),(3,1,.c (.int .u8 116)),(4,1,.c (.int .u8 111)),(5,1,.c (.int .u8 100)
 ),(6,1,.c (.int .u8 121))]) [],oq 13 (.mk8 (.t 12)) [12],om 14 (.t 3) [3],om 15 (.t 1) [1],om 16 (.t 2) [2],oq 17 (.bslice 3 1 3 [.int .i64 0,.int .i64 0,.int .i64 0] [(0,1,.t 14),(1,
 1,.t 15),(2,1,.t 16)]) [14,15,16],oq 18 (.call 21 [.t 17]) [17],oq 19 (.app 5 1 1 (.t 13) (.t 18)) [13,18],om 11 (.t 19) [19]]) (.seq (.regD 3 [oh 20 (.mv (.t 11)) [] [] [21,22],oh 21 (.slcA 16 1 (.t 5)
  none none) [] [] [20,22],oh 22 (.slcA 16 1 (.t 9) none none) [5,9,11] [] [20,21],oh 23 (.bslice 55 1 3 [.val (.slice none 0 0),.val (.slice none 0 0),.val (.slice none 0 0)] [(0,1,
 .t 20),(1,1,.t 21),(2,1,.t 22)]) [20,21,22] [0,1,2] [],oh 24 (.call 22 [.t 23]) [23] [0,1,2,3] [],oh 25 (.b2s (.t 24)) [24] [0,1,2,3,4] [],oh 10 (.mv (.t 25)) [25] [0,1,2,3,4,5] []])
  (.ret)))⟩
theorem chk24:chkF Tryz.prog 6 sf24=true:=by kernel_rfl

def sf26:SF:=⟨122,[.c 2 (some 3),.t 3],.seq (.reg [oq 2 (.new 34 [.int .i64 0,.int .i64 0,.val (.slice none 0 0)]) [],om 3 (.c (.int .i64 0)) [3]]) (.seq (.reg [om 12 (.t 0) [0],
 oq 13 (.s2b 5 (.t 12)) [12],oq 14 (.build [.val (.slice none 0 0),.int .i64 0] [(0,1,.t 13)]) [13],oq 15 (.box 75 (.t 14)) [14],om 4 (.t 15) [15]]) (.seq (.reg [om 17 (.t 4) [],oq 18 (.nilc (.t 17)
 ) [17],oq 19 (.fld (.t 18) 0) [18],oq 20 (.load none (.t 19)) [19],oq 21 (.call 38 [.t 20]) [20],om 16 (.t 21) [21],oq 22 (.ext (.t 16) 0) [],oq 23 (.ext (.t 16) 1) [],oq 24 (.ext (.t 16)
  2) [16],om 5 (.t 22) [22],om 6 (.t 23) [23],om 7 (.t 24) [24]]) (.seq (.block 0 (.seq (.reg [om 26 (.t 4) [],om 27 (.t 6) [6],om 28 (.t 7) [7],oq 29 (.call 39 [.t 26,.t 27,.t 28]) [26,
 27,28],oq 30 (.un .not (.t 29)) [29],om 25 (.t 30) [30]]) (.cond (.t 25) (.seq (.regW 6 [oh 31 (.build [.int .i64 0,.int .i64 0,.val (.slice none 0 0)] []) [] [] [32,33,34,35],oh 32 (.mv (.t 4)
 ) [] [] [31],oh 33 (.nilc (.t 32)) [] [1] [31],oh 34 (.fld (.t 33) 1) [] [1,2] [31],oh 35 (.load none (.t 34)) [] [1,2,3] [31],⟨none,.store 3 (.t 2) (.t 31),none,[4,31,32,33,34],[0],
 [32,33,34,35]⟩,oh 3 (.mv (.t 35)) [35] [0,1,2,3,4,5] []]) (.ret)) (.seq (.reg [om 37 (.t 5) [],oq 38 (.len false (.t 37)) [37],oq 39 (.bin .neq (.t 38) (.c (.int .i64 3))) [38],om 40 (.t 39)
  [39],og 41 (.mv (.t 5)) 40 false [],og 42 (.idxS (.t 41) (.c (.int .i64 2)) 1) 40 false [41],og 43 (.load none (.t 42)) 40 false [42],og 44 (.bin .lss (.t 43) (.c (.int .i64 1))) 40 false [43],
 oq 45 (.pick (.t 40) (.c (.bool true)) (.t 44)) [40,44],om 46 (.t 45) [45],og 47 (.mv (.t 5)) 46 false [],og 48 (.idxS (.t 47) (.c (.int .i64 2)) 1) 46 false [47],og 49 (.load none (.t 48)
 ) 46 false [48],og 50 (.bin .gtr (.t 49) (.c (.int .i64 16))) 46 false [49],oq 51 (.pick (.t 46) (.c (.bool true)) (.t 50)) [46,50],om 36 (.t 51) [51]]) (.cond (.t 36) (.seq (.reg [oq 52 (.build [.int .i64 0,
 .int .i64 0,.val (.slice none 0 0)] []) [],ov (.store 3 (.t 2) (.t 52)) [52],om 3 (.c (.int .i64 6)) []]) (.ret)) (.skip)))))) (.seq (.regD 12 [oh 53 (.mv (.t 5)) [] [] [8,56,57,58,
 59,60,61,62],oh 54 (.idxS (.t 53) (.c (.int .i64 0)) 1) [] [0] [8,56,57,58,59,60,61,62],oh 55 (.load none (.t 54)) [] [0,1] [8,56,57,58,59,60,61,62],oh 56 (.mv (.t 5)) [] [] [8,53,54,
 55,59,60,61,62],oh 57 (.idxS (.t 56) (.c (.int .i64 1)) 1) [] [3] [8,53,54,55,59,60,61,62],oh 58 (.load none (.t 57)) [] [3,4] [8,53,54,55,59,60,61,62],oh 59 (.mv (.t 5)) [] [] [8,53,
 54,55,56,57,58],oh 60 (.idxS (.t 59) (.c (.int .i64 2)) 1) [] [6] [8,53,54,55,56,57,58],oh 61 (.load none (.t 60)) [] [6,7] [8,53,54,55,56,57,58],oh 62 (.mksl 31 18 40 [.str [],.int .u8 0,
 .int .u8 0,.int .u8 0,.int .u8 0,.int .u8 0,.int .u8 0,.int .u8 0,.int .u8 0,.int .u8 0,.int .u8 0,.int .u8 0,.int .u8 0,.int .u8 0,.int .u8 0,.int .u8 0,.int .u8 0,.int .i64 0] (.t 61)
  (.t 61)) [] [6,7,8] [8,53,54,55,56,57,58],oh 63 (.build [.int .i64 0,.int .i64 0,.val (.slice none 0 0)] [(0,1,.t 55),(1,1,.t 58),(2,1,.t 62)]) [] [0,1,2,3,4,5,6,7,8,9] [8],oh 8 (.new 34 [.int .i64 0,
 .int .i64 0,.val (.slice none 0 0)]) [5,53,54,55,56,57,58,59,60,61,62] [] [53,54,55,56,57,58,59,60,61,62,63],⟨none,.store 3 (.t 8) (.t 63),none,[63],[0,1,2,3,4,5,6,7,8,9,10,11],[]⟩])
  (.seq (.seq (.reg [oq 64 (.fld (.t 8) 2) [],oq 65 (.load none (.t 64)) [64],oq 66 (.len false (.t 65)) [65],om 67 (.c (.int .i64 0)) []]) (.block 1 (.loop (.seq (.reg [oq 68 (.bin .lss (.t 67)
  (.t 66)) []]) (.seq (.cond (.t 68) (.skip) (.exit 1)) (.seq (.block 2 (.seq (.reg [om 69 (.t 67) [],om 9 (.t 69) [69]]) (.seq (.reg [om 70 (.t 4) [],oq 71 (.mkfn 40 [.t 70] []) [70],
 om 72 (.t 4) [],oq 73 (.mkfn 41 [.t 72] []) [72],om 74 (.t 4) [],oq 75 (.mkfn 42 [.t 74] []) [74],oq 76 (.bslice 79 1 3 [.val .nilFunc,.val .nilFunc,.val .nilFunc] [(0,1,.t 71),(1,1,
 .t 73),(2,1,.t 75)]) [71,73,75],oq 77 (.len false (.t 76)) [],om 78 (.c (.int .i64 0)) []]) (.block 3 (.loop (.seq (.reg [oq 79 (.bin .lss (.t 78) (.t 77)) []]) (.seq (.cond (.t 79)
  (.skip) (.exit 3)) (.seq (.block 4 (.seq (.reg [oq 80 (.idxS (.t 76) (.t 78) 1) [],oq 81 (.load none (.t 80)) [80],om 11 (.t 81) [81]]) (.reg [om 82 (.t 11) [11],oq 83 (.fld (.t 8)
  2) [],oq 84 (.load none (.t 83)) [83],om 85 (.t 9) [],oq 86 (.idxS (.t 84) (.t 85) 18) [84,85],oq 87 (.callv (.t 82) [.t 86]) [82,86,87]]))) (.reg [oq 88 (.bin .add (.t 78) (.c (.int .i64 1)
 )) [78],om 78 (.t 88) [88]]))))))))) (.reg [oq 89 (.bin .add (.t 67) (.c (.int .i64 1))) [67],om 67 (.t 89) [89]]))))))) (.seq (.seq (.reg [om 90 (.t 4) [],oq 91 (.nilc (.t 90)) [90],
 oq 92 (.fld (.t 91) 1) [91],oq 93 (.load none (.t 92)) [92],oq 94 (.bin .eql (.t 93) (.c (.int .i64 0))) [93],om 95 (.t 94) [94],og 96 (.mv (.t 4)) 95 true [],og 97 (.nilc (.t 96)) 95 true [96],
 og 98 (.fld (.t 97) 0) 95 true [97],og 99 (.load none (.t 98)) 95 true [98],og 100 (.len false (.t 99)) 95 true [99],og 101 (.bin .gtr (.t 100) (.c (.int .i64 0))) 95 true [100],og 102 (.mv (.t 101)
 ) 95 true [101],og 103 (.load (some 3) (.t 8)) 102 false [],og 104 (.call 16 [.t 103]) 102 false [103],og 105 (.un .not (.t 104)) 102 false [104],og 106 (.pick (.t 102) (.c (.bool true)
 ) (.t 105)) 95 true [102,105],oq 107 (.pick (.t 95) (.t 106) (.c (.bool false))) [95,106]]) (.cond (.t 107) (.reg [om 108 (.t 4) [],oq 109 (.nilc (.t 108)) [108],oq 110 (.fld (.t 109)
  1) [109],ov (.store 1 (.t 110) (.c (.int .i64 6))) [110]]) (.skip))) (.seq (.seq (.reg [om 111 (.t 4) [],oq 112 (.nilc (.t 111)) [111],oq 113 (.fld (.t 112) 1) [112],oq 114 (.load none (.t 113)
 ) [113],oq 115 (.bin .neq (.t 114) (.c (.int .i64 0))) [114]]) (.cond (.t 115) (.seq (.regW 6 [oh 116 (.build [.int .i64 0,.int .i64 0,.val (.slice none 0 0)] []) [] [] [117,118,119,
 120],oh 117 (.mv (.t 4)) [] [] [116],oh 118 (.nilc (.t 117)) [] [1] [116],oh 119 (.fld (.t 118) 1) [] [1,2] [116],oh 120 (.load none (.t 119)) [] [1,2,3] [116],⟨none,.store 3 (.t 2)
  (.t 116),none,[4,116,117,118,119],[0],[117,118,119,120]⟩,oh 3 (.mv (.t 120)) [120] [0,1,2,3,4,5] []]) (.ret)) (.skip))) (.seq (.reg [oq 121 (.load (some 3) (.t 8)) [8],ov (.store 3 (.t 2)
  (.t 121)) [121],om 3 (.c (.int .i64 0)) []]) (.ret)))))))))⟩
theorem chk26:chkF Tryz.prog 14 sf26=true:=by kernel_rfl

def sf28:SF:=⟨7,[.c 0 (some 3)],.seq (.reg [oq 0 (.new 34 [.int .i64 0,.int .i64 0,.val (.slice none 0 0)]) []]) (.seq (.reg [oq 1 (.build [.int .u8 0,.int .u8 0,.int .u8 0,.int .u8 0,
 .int .u8 0,.int .u8 0,.int .u8 0,.int .u8 0,.int .u8 0,.int .u8 0,.int .u8 0,.int .u8 0,.int .u8 0,.int .u8 0,.int .u8 0,.int .u8 0] [(0,1,.c (.int .u8 1))]) [],oq 2 (.build [.str [],
 .int .u8 0,.int .u8 0,.int .u8 0,.int .u8 0,.int .u8 0,.int .u8 0,.int .u8 0,.int .u8 0,.int .u8 0,.int .u8 0,.int .u8 0,.int .u8 0,.int .u8 0,.int .u8 0,.int .u8 0,.int .u8 0,.int .i64 0] [(0,
 1,.c (.str [97])),(1,16,.t 1)]) [1],oq 3 (.build [.int .u8 0,.int .u8 0,.int .u8 0,.int .u8 0,.int .u8 0,.int .u8 0,.int .u8 0,.int .u8 0,.int .u8 0,.int .u8 0,.int .u8 0,.int .u8 0,
 .int .u8 0,.int .u8 0,.int .u8 0,.int .u8 0] [(0,1,.c (.int .u8 2))]) [],oq 4 (.build [.str [],.int .u8 0,.int .u8 0,.int .u8 0,.int .u8 0,.int .u8 0,.int .u8 0,.int .u8 0,.int .u8 0,
 .int .u8 0,.int .u8 0,.int .u8 0,.int .u8 0,.int .u8 0,.int .u8 0,.int .u8 0,.int .u8 0,.int .i64 0] [(0,1,.c (.str [98])),(1,16,.t 3)]) [3],oq 5 (.bslice 31 18 2 [.str [],.int .u8 0,
 .int .u8 0,.int .u8 0,.int .u8 0,.int .u8 0,.int .u8 0,.int .u8 0,.int .u8 0,.int .u8 0,.int .u8 0,.int .u8 0,.int .u8 0,.int .u8 0,.int .u8 0,.int .u8 0,.int .u8 0,.int .i64 0,.str [],
 .int .u8 0,.int .u8 0,.int .u8 0,.int .u8 0,.int .u8 0,.int .u8 0,.int .u8 0,.int .u8 0,.int .u8 0,.int .u8 0,.int .u8 0,.int .u8 0,.int .u8 0,.int .u8 0,.int .u8 0,.int .u8 0,.int .i64 0] [(0,
 18,.t 2),(18,18,.t 4)]) [2,4],oq 6 (.build [.int .i64 0,.int .i64 0,.val (.slice none 0 0)] [(1,1,.c (.int .i64 2)),(2,1,.t 5)]) [5],ov (.store 3 (.t 0) (.t 6)) [6]]) (.ret))⟩
theorem chk28:chkF Tryz.prog 12 sf28=true:=by kernel_rfl

def sf29:SF:=⟨8,[.t 2],.seq (.reg [om 2 (.c (.val (.slice none 0 0))) [2]]) (.seq (.seq (.reg [om 3 (.t 0) [],oq 4 (.isNil false (.t 3)) [3]]) (.cond (.t 4) (.seq (.reg [om 2 (.c (.val (.slice none 0 0)
 )) []]) (.ret)) (.skip))) (.seq (.reg [oq 5 (.bslice 31 18 0 [] []) [],om 6 (.t 0) [0],oq 7 (.app 31 18 40 (.t 5) (.t 6)) [5,6],om 2 (.t 7) [7]]) (.ret)))⟩
theorem chk29:chkF Tryz.prog 37 sf29=true:=by kernel_rfl

def sf30:SF:=⟨19,[.t 4],.seq (.reg [oq 3 (.box 31 (.t 1)) [1],om 4 (.c (.int .i64 0)) [4]]) (.seq (.seq (.reg [om 6 (.t 0) [],oq 7 (.len false (.t 6)) [6],om 8 (.c (.int .i64 0)
 ) []]) (.block 0 (.loop (.seq (.reg [oq 9 (.bin .lss (.t 8) (.t 7)) []]) (.seq (.cond (.t 9) (.skip) (.exit 0)) (.seq (.block 1 (.seq (.reg [om 10 (.t 8) [],om 5 (.t 10) [10]]) (.seq (.regP 5 [oh 11 (.load (some 18)
  (.t 3)) [] [] [12,13,14,15],oh 12 (.mv (.t 0)) [] [] [11,13],oh 13 (.mv (.t 5)) [] [] [11,12],oh 14 (.idxS (.t 12) (.t 13) 18) [] [1,2] [11],oh 15 (.load (some 18) (.t 14)) [12,13,
 14] [1,2,3] [11],oh 16 (.eqv false [.s,.i .u8,.i .u8,.i .u8,.i .u8,.i .u8,.i .u8,.i .u8,.i .u8,.i .u8,.i .u8,.i .u8,.i .u8,.i .u8,.i .u8,.i .u8,.i .u8,.i .i64] (.t 11) (.t 15)) [11,
 15] [0,1,2,3,4] []]) (.cond (.t 16) (.seq (.reg [om 17 (.t 5) [5],om 4 (.t 17) [17]]) (.ret)) (.skip))))) (.reg [oq 18 (.bin .add (.t 8) (.c (.int .i64 1))) [8],om 8 (.t 18) [18]]))
 ))))) (.seq (.reg [om 4 (.c (.int .i64 (-1))) []]) (.ret)))⟩
theorem chk30:chkF Tryz.prog 45 sf30=true:=by kernel_rfl

end Go.Proofs.YtkfbkooobfepeaaGreatDoor.Sf

/- The functions of the program that are walked through, written out for the engine (printed by wip/tools/Print.lean from the dump), and the kernel's check of each against the program. -/
namespace Go.Proofs.YtkfbkooobfepeaaGreatDoor.Sf
open Go Go.Sx
set_option maxRecDepth 100000
set_option linter.unusedSimpArgs false
set_option linter.unusedVariables false
def sf31:SF:=⟨21,[.t 2],.seq (.reg [om 2 (.c (.val (.slice none 0 0))) [2]]) (.seq (.reg [om 6 (.t 0) [],oq 7 (.len false (.t 6)) [6],oq 8 (.call 44 [.t 7]) [7],om 3 (.t 8) [8]])
  (.seq (.seq (.reg [om 9 (.t 0) [0],oq 10 (.len false (.t 9)) [],om 11 (.c (.int .i64 0)) []]) (.block 0 (.loop (.seq (.reg [oq 12 (.bin .lss (.t 11) (.t 10)) []]) (.seq (.cond (.t 12)
  (.skip) (.exit 0)) (.seq (.block 1 (.seq (.reg [oq 13 (.idxS (.t 9) (.t 11) 1) [],oq 14 (.load none (.t 13)) [13],om 5 (.t 14) [14]]) (.reg [om 15 (.t 3) [3],om 16 (.t 5) [5],oq 17 (.call 44 [.t 16])
  [16],oq 18 (.app 5 1 1 (.t 15) (.t 17)) [15,17],om 3 (.t 18) [18]]))) (.reg [oq 19 (.bin .add (.t 11) (.c (.int .i64 1))) [11],om 11 (.t 19) [19]]))))))) (.seq (.reg [om 20 (.t 3) [3],
 om 2 (.t 20) [20]]) (.ret))))⟩
theorem chk31:chkF Tryz.prog 21 sf31=true:=by kernel_rfl

def sf32:SF:=⟨36,[.t 2],.seq (.reg [om 2 (.c (.val (.slice none 0 0))) [2]]) (.seq (.reg [om 3 (.c (.int .i64 0)) []]) (.seq (.seq (.reg [om 9 (.t 0) [],oq 10 (.len false (.t 9)
 ) [],om 11 (.c (.int .i64 0)) []]) (.block 0 (.loop (.seq (.reg [oq 12 (.bin .lss (.t 11) (.t 10)) []]) (.seq (.cond (.t 12) (.skip) (.exit 0)) (.seq (.block 1 (.seq (.reg [oq 13 (.idxS (.t 9)
  (.t 11) 1) [],oq 14 (.load none (.t 13)) [13],om 5 (.t 14) [14]]) (.seq (.reg [om 15 (.t 3) [3],om 16 (.t 5) [5],oq 17 (.len false (.t 16)) [16],oq 18 (.bin .add (.t 15) (.t 17)) [15,
 17],om 3 (.t 18) [18]]) (.seq (.reg [om 19 (.t 3) [],oq 20 (.bin .lss (.t 19) (.c (.int .i64 0))) [19]]) (.cond (.t 20) (.bad) (.skip)))))) (.reg [oq 22 (.bin .add (.t 11) (.c (.int .i64 1)
 )) [11],om 11 (.t 22) [22]]))))))) (.seq (.reg [om 23 (.t 3) [3],oq 24 (.call 47 [.c (.val (.slice none 0 0)),.t 23]) [23],om 6 (.t 24) [24]]) (.seq (.seq (.reg [om 25 (.t 0) [0],oq 26 (.len false (.t 25)
 ) [],om 27 (.c (.int .i64 0)) []]) (.block 2 (.loop (.seq (.reg [oq 28 (.bin .lss (.t 27) (.t 26)) []]) (.seq (.cond (.t 28) (.skip) (.exit 2)) (.seq (.block 3 (.seq (.reg [oq 29 (.idxS (.t 25)
  (.t 27) 1) [],oq 30 (.load none (.t 29)) [29],om 8 (.t 30) [30]]) (.reg [om 31 (.t 6) [6],om 32 (.t 8) [8],oq 33 (.app 5 1 1 (.t 31) (.t 32)) [31,32],om 6 (.t 33) [33]]))) (.reg [oq 34 (.bin .add (.t 27)
  (.c (.int .i64 1))) [27],om 27 (.t 34) [34]]))))))) (.seq (.reg [om 35 (.t 6) [6],om 2 (.t 35) [35]]) (.ret))))))⟩
theorem chk32:chkF Tryz.prog 22 sf32=true:=by kernel_rfl

def sf33:SF:=⟨8,[.t 2],.seq (.reg [om 2 (.c (.val (.slice none 0 0))) [2]]) (.seq (.reg [om 3 (.t 0) [],oq 4 (.len true (.t 3)) [3],oq 5 (.call 44 [.t 4]) [4],om 6 (.t 0) [0],oq 7 (.app 5 1 1 (.t 5)
  (.t 6)) [5,6],om 2 (.t 7) [7]]) (.ret))⟩
theorem chk33:chkF Tryz.prog 43 sf33=true:=by kernel_rfl

def sf34:SF:=⟨47,[.t 2],.seq (.reg [om 2 (.c (.val (.slice none 0 0))) [2]]) (.seq (.reg [om 8 (.t 0) [],oq 9 (.conv .u64 (.t 8)) [8],om 3 (.t 9) [9],om 4 (.c (.int .u8 0)) []])
  (.seq (.seq (.reg [om 10 (.t 0) [0],oq 11 (.bin .lss (.t 10) (.c (.int .i64 0))) [10]]) (.cond (.t 11) (.reg [om 12 (.t 3) [3],oq 13 (.un .xor (.t 12)) [12],om 3 (.t 13) [13],om 4 (.c (.int .u8 255)
 ) []]) (.skip))) (.seq (.reg [om 5 (.c (.int .i64 8)) []]) (.seq (.skip) (.seq (.block 0 (.loop (.seq (.seq (.reg [om 14 (.t 5) [],oq 15 (.bin .gtr (.t 14) (.c (.int .i64 0))) [14]])
  (.cond (.t 15) (.skip) (.exit 0))) (.block 1 (.seq (.seq (.reg [om 16 (.t 3) [],om 17 (.t 5) [],oq 18 (.bin .sub (.t 17) (.c (.int .i64 1))) [17],oq 19 (.bin .mul (.c (.int .i64 8)
 ) (.t 18)) [18],oq 20 (.bin .shr (.t 16) (.t 19)) [16,19],oq 21 (.bin .gtr (.t 20) (.c (.int .u64 0))) [20]]) (.cond (.t 21) (.exit 0) (.skip))) (.reg [om 22 (.t 5) [5],oq 23 (.bin .sub (.t 22)
  (.c (.int .i64 1))) [22],om 5 (.t 23) [23]])))))) (.seq (.reg [om 24 (.t 5) [],oq 25 (.bin .add (.c (.int .i64 128)) (.t 24)) [24],oq 26 (.conv .u8 (.t 25)) [25],om 27 (.t 4) [],oq 28 (.bin .xor (.t 26)
  (.t 27)) [26,27],oq 29 (.bslice 5 1 1 [.int .u8 0] [(0,1,.t 28)]) [28],om 6 (.t 29) [29]]) (.seq (.seq (.reg [om 30 (.t 5) [5],oq 31 (.bin .sub (.t 30) (.c (.int .i64 1))) [30],om 7 (.t 31)
  [31]]) (.block 2 (.loop (.seq (.seq (.reg [om 32 (.t 7) [],oq 33 (.bin .geq (.t 32) (.c (.int .i64 0))) [32]]) (.cond (.t 33) (.skip) (.exit 2))) (.seq (.block 3 (.reg [om 36 (.t 6)
  [6],om 37 (.t 3) [],om 38 (.t 7) [],oq 39 (.bin .mul (.c (.int .i64 8)) (.t 38)) [38],oq 40 (.bin .shr (.t 37) (.t 39)) [37,39],oq 41 (.conv .u8 (.t 40)) [40],om 42 (.t 4) [],oq 43 (.bin .xor (.t 41)
  (.t 42)) [41,42],oq 44 (.bslice 5 1 1 [.int .u8 0] [(0,1,.t 43)]) [43],oq 45 (.app 5 1 1 (.t 36) (.t 44)) [36,44],om 6 (.t 45) [45]])) (.reg [om 34 (.t 7) [7],oq 35 (.bin .sub (.t 34)
  (.c (.int .i64 1))) [34],om 7 (.t 35) [35]])))))) (.seq (.reg [om 46 (.t 6) [6],om 2 (.t 46) [46]]) (.ret)))))))))⟩
theorem chk34:chkF Tryz.prog 44 sf34=true:=by kernel_rfl

def sf36:SF:=⟨9,[.t 2],.seq (.reg [om 2 (.c (.val (.slice none 0 0))) [2]]) (.seq (.reg [om 3 (.t 0) [],oq 4 (.len true (.t 3)) [3],oq 5 (.call 27 [.t 4]) [4],om 6 (.t 0) [0],oq 7 (.s2b 5 (.t 6)
 ) [6],oq 8 (.app 5 1 1 (.t 5) (.t 7)) [5,7],om 2 (.t 8) [8]]) (.ret))⟩
theorem chk36:chkF Tryz.prog 28 sf36=true:=by kernel_rfl

def sf37:SF:=⟨17,[.t 2],.seq (.reg [oq 1 (.box 23 (.t 0)) [0],om 2 (.c (.str [])) [2]]) (.seq (.reg [om 3 (.c (.val (.slice none 0 0))) []]) (.seq (.seq (.reg [om 4 (.c (.int .i64 0)
 ) []]) (.block 0 (.loop (.seq (.seq (.reg [om 5 (.t 4) [],oq 6 (.bin .lss (.t 5) (.c (.int .i64 16))) [5]]) (.cond (.t 6) (.skip) (.exit 0))) (.seq (.block 1 (.reg [om 9 (.t 3) [3],
 om 10 (.t 4) [],oq 11 (.idxA (.t 1) (.t 10) 16 1) [10],oq 12 (.load none (.t 11)) [11],oq 13 (.bslice 5 1 1 [.int .u8 0] [(0,1,.t 12)]) [12],oq 14 (.app 5 1 1 (.t 9) (.t 13)) [9,13],
 om 3 (.t 14) [14]])) (.reg [om 7 (.t 4) [4],oq 8 (.bin .add (.t 7) (.c (.int .i64 1))) [7],om 4 (.t 8) [8]])))))) (.seq (.reg [om 15 (.t 3) [3],oq 16 (.b2s (.t 15)) [15],om 2 (.t 16)
  [16]]) (.ret))))⟩
theorem chk37:chkF Tryz.prog 49 sf37=true:=by kernel_rfl

def sf38:SF:=⟨59,[.t 2],.seq (.reg [om 2 (.c (.val (.slice none 0 0))) [2]]) (.seq (.reg [om 9 (.t 0) [],om 3 (.t 9) [9]]) (.seq (.seq (.reg [om 10 (.t 0) [],oq 11 (.bin .lss (.t 10)
  (.c (.int .i64 0))) [10]]) (.cond (.t 11) (.reg [om 12 (.t 0) [],oq 13 (.bin .sub (.c (.int .i64 (-1))) (.t 12)) [12],om 3 (.t 13) [13]]) (.skip))) (.seq (.reg [om 4 (.c (.val (.slice none 0 0)
 )) []]) (.seq (.block 0 (.loop (.seq (.seq (.reg [om 14 (.t 3) [],oq 15 (.bin .gtr (.t 14) (.c (.int .i64 0))) [14]]) (.cond (.t 15) (.skip) (.exit 0))) (.block 1 (.seq (.reg [om 16 (.t 4)
  [4],om 17 (.t 3) [],oq 18 (.bin .rem (.t 17) (.c (.int .i64 256))) [17],oq 19 (.conv .u8 (.t 18)) [18],oq 20 (.bslice 5 1 1 [.int .u8 0] [(0,1,.t 19)]) [19],oq 21 (.app 5 1 1 (.t 16)
  (.t 20)) [16,20],om 4 (.t 21) [21]]) (.reg [om 22 (.t 3) [3],oq 23 (.bin .quo (.t 22) (.c (.int .i64 256))) [22],om 3 (.t 23) [23]])))))) (.seq (.reg [om 24 (.t 4) [],oq 25 (.len false (.t 24)
 ) [24],om 5 (.t 25) [25]]) (.seq (.reg [om 6 (.c (.val (.slice none 0 0))) []]) (.seq (.seq (.reg [om 26 (.t 0) [],oq 27 (.bin .geq (.t 26) (.c (.int .i64 0))) [26]]) (.cond (.t 27)
  (.reg [om 28 (.t 6) [6],om 29 (.t 5) [],oq 30 (.bin .add (.c (.int .i64 128)) (.t 29)) [29],oq 31 (.conv .u8 (.t 30)) [30],oq 32 (.bslice 5 1 1 [.int .u8 0] [(0,1,.t 31)]) [31],oq 33 (.app 5 1 1 (.t 28)
  (.t 32)) [28,32],om 6 (.t 33) [33]]) (.reg [om 34 (.t 6) [6],om 35 (.t 5) [],oq 36 (.bin .sub (.c (.int .i64 127)) (.t 35)) [35],oq 37 (.conv .u8 (.t 36)) [36],oq 38 (.bslice 5 1 1 [.int .u8 0] [(0,
 1,.t 37)]) [37],oq 39 (.app 5 1 1 (.t 34) (.t 38)) [34,38],om 6 (.t 39) [39]]))) (.seq (.seq (.reg [om 40 (.t 5) [5],oq 41 (.bin .sub (.t 40) (.c (.int .i64 1))) [40],om 7 (.t 41) [41]])
  (.block 2 (.loop (.seq (.seq (.reg [om 42 (.t 7) [],oq 43 (.bin .geq (.t 42) (.c (.int .i64 0))) [42]]) (.cond (.t 43) (.skip) (.exit 2))) (.seq (.block 3 (.seq (.reg [om 46 (.t 4)
  [],om 47 (.t 7) [],oq 48 (.idxS (.t 46) (.t 47) 1) [46,47],oq 49 (.load none (.t 48)) [48],om 8 (.t 49) [49]]) (.seq (.seq (.reg [om 50 (.t 0) [],oq 51 (.bin .lss (.t 50) (.c (.int .i64 0)
 )) [50]]) (.cond (.t 51) (.reg [om 52 (.t 8) [8],oq 53 (.bin .sub (.c (.int .u8 255)) (.t 52)) [52],om 8 (.t 53) [53]]) (.skip))) (.reg [om 54 (.t 6) [6],om 55 (.t 8) [8],oq 56 (.bslice 5 1 1 [.int .u8 0] [(0,
 1,.t 55)]) [55],oq 57 (.app 5 1 1 (.t 54) (.t 56)) [54,56],om 6 (.t 57) [57]])))) (.reg [om 44 (.t 7) [7],oq 45 (.bin .sub (.t 44) (.c (.int .i64 1))) [44],om 7 (.t 45) [45]])))))) (.seq (.reg [om 58 (.t 6)
  [6],om 2 (.t 58) [58]]) (.ret))))))))))⟩
theorem chk38:chkF Tryz.prog 27 sf38=true:=by kernel_rfl

def sf39:SF:=⟨32,[.c 4 (some 16)],.seq (.reg [oq 4 (.new 23 [.int .u8 0,.int .u8 0,.int .u8 0,.int .u8 0,.int .u8 0,.int .u8 0,.int .u8 0,.int .u8 0,.int .u8 0,.int .u8 0,.int .u8 0,
 .int .u8 0,.int .u8 0,.int .u8 0,.int .u8 0,.int .u8 0]) []]) (.seq (.regD 7 [oh 9 (.callp 70 []) [] [] [5,10,11,12,13],oh 10 (.mv (.t 0)) [] [] [5,9],oh 11 (.conv .u8 (.t 10)) [] [1] [5,
 9],oh 12 (.bslice 5 1 1 [.int .u8 0] [(0,1,.t 11)]) [] [1,2] [5,9],oh 13 (.b2s (.t 12)) [] [1,2,3] [5,9],oh 14 (.callp 71 [.t 9,.t 13]) [] [0,1,2,3,4] [5],oh 5 (.new 118 [.int .u32 0,
 .int .u32 0,.int .u32 0,.int .u32 0,.int .u32 0,.int .u32 0,.int .u32 0,.int .u32 0,.int .u8 0,.int .u8 0,.int .u8 0,.int .u8 0,.int .u8 0,.int .u8 0,.int .u8 0,.int .u8 0,.int .u8 0,
 .int .u8 0,.int .u8 0,.int .u8 0,.int .u8 0,.int .u8 0,.int .u8 0,.int .u8 0,.int .u8 0,.int .u8 0,.int .u8 0,.int .u8 0,.int .u8 0,.int .u8 0,.int .u8 0,.int .u8 0,.int .u8 0,.int .u8 0,
 .int .u8 0,.int .u8 0,.int .u8 0,.int .u8 0,.int .u8 0,.int .u8 0,.int .u8 0,.int .u8 0,.int .u8 0,.int .u8 0,.int .u8 0,.int .u8 0,.int .u8 0,.int .u8 0,.int .u8 0,.int .u8 0,.int .u8 0,
 .int .u8 0,.int .u8 0,.int .u8 0,.int .u8 0,.int .u8 0,.int .u8 0,.int .u8 0,.int .u8 0,.int .u8 0,.int .u8 0,.int .u8 0,.int .u8 0,.int .u8 0,.int .u8 0,.int .u8 0,.int .u8 0,.int .u8 0,
 .int .u8 0,.int .u8 0,.int .u8 0,.int .u8 0,.int .u64 0]) [0,9,10,11,12,13] [] [9,10,11,12,13,14],⟨none,.store 73 (.t 5) (.t 14),none,[14],[0,1,2,3,4,5,6],[]⟩]) (.seq (.seq (.reg [om 15 (.t 1)
  [1],oq 16 (.len false (.t 15)) [],om 17 (.c (.int .i64 0)) []]) (.block 0 (.loop (.seq (.reg [oq 18 (.bin .lss (.t 17) (.t 16)) []]) (.seq (.cond (.t 18) (.skip) (.exit 0)) (.seq (.block 1 (.seq (.reg [oq 19 (.idxS (.t 15)
  (.t 17) 1) [],oq 20 (.load none (.t 19)) [19],om 7 (.t 20) [20]]) (.regD 4 [oh 21 (.load (some 73) (.t 5)) [] [] [22,23,24],oh 22 (.mv (.t 7)) [] [] [21],oh 23 (.call 43 [.t 22]) [] [1] [21],
 oh 24 (.b2s (.t 23)) [7,22,23] [1,2] [21],oh 25 (.callp 71 [.t 21,.t 24]) [21,24] [0,1,2,3] [],⟨none,.store 73 (.t 5) (.t 25),none,[25],[0,1,2,3,4],[]⟩]))) (.reg [oq 26 (.bin .add (.t 17)
  (.c (.int .i64 1))) [17],om 17 (.t 26) [26]]))))))) (.seq (.reg [oq 27 (.load (some 73) (.t 5)) [5],oq 28 (.callp 72 [.t 27]) [27],oq 8 (.new 121 [.int .u8 0,.int .u8 0,.int .u8 0,
 .int .u8 0,.int .u8 0,.int .u8 0,.int .u8 0,.int .u8 0,.int .u8 0,.int .u8 0,.int .u8 0,.int .u8 0,.int .u8 0,.int .u8 0,.int .u8 0,.int .u8 0,.int .u8 0,.int .u8 0,.int .u8 0,.int .u8 0,
 .int .u8 0,.int .u8 0,.int .u8 0,.int .u8 0,.int .u8 0,.int .u8 0,.int .u8 0,.int .u8 0,.int .u8 0,.int .u8 0,.int .u8 0,.int .u8 0]) [],ov (.store 32 (.t 8) (.t 28)) [28]]) (.seq (.reg [oq 29 (.slcA 32 1 (.t 8)
  none (some (.c (.int .i64 16)))) [8],oq 30 (.arrAt 16 (.t 29)) [29],oq 31 (.load (some 16) (.t 30)) [30],ov (.store 16 (.t 4) (.t 31)) [31]]) (.ret)))))⟩
theorem chk39:chkF Tryz.prog 46 sf39=true:=by kernel_rfl

def sf40:SF:=⟨9,[.c 4 (some 16)],.seq (.reg [oq 4 (.new 23 [.int .u8 0,.int .u8 0,.int .u8 0,.int .u8 0,.int .u8 0,.int .u8 0,.int .u8 0,.int .u8 0,.int .u8 0,.int .u8 0,.int .u8 0,
 .int .u8 0,.int .u8 0,.int .u8 0,.int .u8 0,.int .u8 0]) []]) (.seq (.reg [om 5 (.t 0) [0],om 6 (.t 1) [1],oq 7 (.call 67 [.t 5,.t 6]) [5,6],oq 8 (.call 66 [.t 7]) [7],ov (.store 16 (.t 4)
  (.t 8)) [8]]) (.ret))⟩
theorem chk40:chkF Tryz.prog 32 sf40=true:=by kernel_rfl

def sf41:SF:=⟨129,[.t 8,.t 9],.seq (.reg [oq 4 (.box 23 (.t 0)) [0],om 8 (.c (.int .i64 0)) [8],om 9 (.c (.int .i64 0)) [9]]) (.seq (.block 0 (.seq (.reg [om 21 (.t 1) [],oq 22 (.callp 53 [.t 21])
  [21],oq 23 (.un .not (.t 22)) [22],om 20 (.t 23) [23]]) (.cond (.t 20) (.seq (.reg [om 8 (.c (.int .i64 0)) [],om 9 (.c (.int .i64 1)) []]) (.ret)) (.seq (.reg [om 25 (.t 2) [],oq 26 (.len true (.t 25)
 ) [25],oq 27 (.bin .gtr (.t 26) (.c (.int .i64 1048576))) [26],om 24 (.t 27) [27]]) (.cond (.t 24) (.seq (.reg [om 8 (.c (.int .i64 0)) [],om 9 (.c (.int .i64 2)) []]) (.ret)) (.skip)
 ))))) (.seq (.reg [om 29 (.t 3) [3],oq 30 (.call 54 [.t 29]) [29],om 28 (.t 30) [30],oq 31 (.ext (.t 28) 0) [],oq 32 (.ext (.t 28) 1) [28],om 10 (.t 31) [31],om 11 (.t 32) [32]]) (.seq (.reg [om 34 (.t 11)
  [],oq 35 (.callv (.t 34) []) [34],om 33 (.t 35) [35],oq 36 (.ext (.t 33) 0) [],oq 37 (.ext (.t 33) 1) [33],om 12 (.t 36) [36],om 13 (.t 37) [13,37]]) (.seq (.reg [om 39 (.t 12) [12],
 oq 40 (.call 55 [.t 39]) [39],om 38 (.t 40) [40],oq 41 (.ext (.t 38) 0) [],oq 42 (.ext (.t 38) 1) [],oq 43 (.ext (.t 38) 2) [38],om 14 (.t 41) [41],om 15 (.t 42) [42],om 16 (.t 43) [43]])
  (.seq (.reg [om 44 (.t 10) [],om 45 (.t 15) [15],om 46 (.t 16) [16],oq 47 (.callv (.t 44) [.t 45,.t 46]) [44,45,46,47]]) (.seq (.reg [om 49 (.t 11) [],oq 50 (.callv (.t 49) []) [49],
 om 48 (.t 50) [50],oq 51 (.ext (.t 48) 0) [],oq 52 (.ext (.t 48) 1) [48,52],om 12 (.t 51) [51]]) (.seq (.reg [om 54 (.t 12) [12],oq 55 (.call 56 [.t 54]) [54],om 53 (.t 55) [55],oq 56 (.ext (.t 53)
  0) [],oq 57 (.ext (.t 53) 1) [],oq 58 (.ext (.t 53) 2) [53],om 17 (.t 56) [56],om 15 (.t 57) [57],om 16 (.t 58) [58]]) (.seq (.reg [om 59 (.t 10) [],om 60 (.t 15) [15],om 61 (.t 16)
  [16],oq 62 (.callv (.t 59) [.t 60,.t 61]) [59,60,61,62]]) (.seq (.reg [om 64 (.t 11) [],oq 65 (.callv (.t 64) []) [64],om 63 (.t 65) [65],oq 66 (.ext (.t 63) 0) [],oq 67 (.ext (.t 63)
  1) [63,67],om 12 (.t 66) [66]]) (.seq (.reg [om 69 (.t 12) [12],oq 70 (.call 57 [.t 69]) [69],om 68 (.t 70) [70],oq 71 (.ext (.t 68) 0) [],oq 72 (.ext (.t 68) 1) [],oq 73 (.ext (.t 68)
  2) [68],om 18 (.t 71) [71],om 15 (.t 72) [72],om 16 (.t 73) [73]]) (.seq (.reg [om 74 (.t 10) [10],om 75 (.t 15) [15],om 76 (.t 16) [16],oq 77 (.callv (.t 74) [.t 75,.t 76]) [74,75,
 76,77]]) (.seq (.reg [om 79 (.t 11) [11],oq 80 (.callv (.t 79) []) [79],om 78 (.t 80) [80],oq 81 (.ext (.t 78) 0) [],oq 82 (.ext (.t 78) 1) [78],om 12 (.t 81) [81],om 16 (.t 82) [82]])
  (.seq (.block 1 (.seq (.reg [om 84 (.t 16) [],oq 85 (.bin .neq (.t 84) (.c (.int .i64 0))) [84],om 83 (.t 85) [85]]) (.cond (.t 83) (.seq (.reg [om 86 (.t 16) [16],om 8 (.c (.int .i64 0)
 ) [],om 9 (.t 86) [86]]) (.ret)) (.seq (.reg [om 88 (.t 12) [12],oq 89 (.len false (.t 88)) [88],oq 90 (.bin .gtr (.t 89) (.c (.int .i64 0))) [89],om 91 (.t 90) [90],og 92 (.mv (.t 14)
 ) 91 false [],og 93 (.bin .lss (.t 92) (.c (.int .i64 0))) 91 false [92],oq 94 (.pick (.t 91) (.c (.bool true)) (.t 93)) [91,93],om 95 (.t 94) [94],og 96 (.mv (.t 14)) 95 false [],og 97 (.mv (.t 1)
 ) 95 false [],og 98 (.bin .shl (.c (.int .i64 1)) (.t 97)) 95 false [97],og 99 (.bin .geq (.t 96) (.t 98)) 95 false [96,98],oq 100 (.pick (.t 95) (.c (.bool true)) (.t 99)) [95,99],
 om 101 (.t 100) [100],og 102 (.mv (.t 18)) 101 false [],og 103 (.len false (.t 102)) 101 false [102],og 104 (.mv (.t 1)) 101 false [],og 105 (.bin .neq (.t 103) (.t 104)) 101 false [103,
 104],oq 106 (.pick (.t 101) (.c (.bool true)) (.t 105)) [101,105],om 87 (.t 106) [106]]) (.cond (.t 87) (.seq (.reg [om 8 (.c (.int .i64 0)) [],om 9 (.c (.int .i64 6)) []]) (.ret)) (.skip)
 ))))) (.seq (.reg [oq 108 (.load (some 16) (.t 4)) [],om 109 (.t 14) [],om 110 (.t 2) [2],oq 111 (.callp 59 [.t 108,.t 109,.t 110]) [108,109,110],om 112 (.t 17) [17],oq 113 (.callp 58 [.t 111,
 .t 112]) [111,112],om 107 (.t 113) [113],oq 114 (.ext (.t 107) 0) [],oq 115 (.ext (.t 107) 1) [107],oq 19 (.new 23 [.int .u8 0,.int .u8 0,.int .u8 0,.int .u8 0,.int .u8 0,.int .u8 0,
 .int .u8 0,.int .u8 0,.int .u8 0,.int .u8 0,.int .u8 0,.int .u8 0,.int .u8 0,.int .u8 0,.int .u8 0,.int .u8 0]) [],ov (.store 16 (.t 19) (.t 114)) [114],om 16 (.t 115) [115]]) (.seq (.seq (.regP 9 [om 116 (.t 16)
  [],oh 117 (.bin .neq (.t 116) (.c (.int .i64 0))) [] [0] [],oh 118 (.mv (.t 117)) [] [0,1] [],⟨(some 119),.load (some 16) (.t 4),(some (118,false)),[],[0,1,2],[120,121,122,123,124]⟩,
 ⟨(some 120),.mv (.t 1),(some (118,false)),[],[0,1,2],[119,122,123,124]⟩,⟨(some 121),.bin .shl (.c (.int .i64 1)) (.t 120),(some (118,false)),[],[0,1,2,4],[119,122,123,124]⟩,⟨(some 122)
 ,.mv (.t 14),(some (118,false)),[],[0,1,2],[119,120,121,123,124]⟩,⟨(some 123),.load (some 16) (.t 19),(some (118,false)),[],[0,1,2],[119,120,121,122,124]⟩,⟨(some 124),.mv (.t 18),(some (118,
 false)),[1,4,16,18,19,116,117,120],[0,1,2],[119,120,121,122,123]⟩,⟨(some 125),.call 60 [.t 119,.t 121,.t 122,.t 123,.t 124],(some (118,false)),[119,121,122,123,124],[0,1,2,3,4,5,6,7,
 8],[]⟩,⟨(some 126),.un .not (.t 125),(some (118,false)),[125],[0,1,2,3,4,5,6,7,8,9],[]⟩,oh 127 (.pick (.t 118) (.c (.bool true)) (.t 126)) [118,126] [0,1,2,3,4,5,6,7,8,9,10] []]) (.cond (.t 127)
  (.seq (.reg [om 8 (.c (.int .i64 0)) [],om 9 (.c (.int .i64 8)) []]) (.ret)) (.skip))) (.seq (.reg [om 128 (.t 14) [14],om 8 (.t 128) [128],om 9 (.c (.int .i64 0)) []]) (.ret))))))
 )))))))))))⟩
theorem chk41:chkF Tryz.prog 30 sf41=true:=by kernel_rfl

def sf42:SF:=⟨112,[.t 8,.t 9],.seq (.reg [oq 4 (.box 23 (.t 0)) [0],om 8 (.c (.int .i64 0)) [8],om 9 (.c (.int .i64 0)) [9]]) (.seq (.seq (.reg [om 23 (.t 1) [],oq 24 (.bin .lss (.t 23)
  (.c (.int .i64 0))) [23],om 25 (.t 24) [24],og 26 (.mv (.t 1)) 25 false [],og 27 (.bin .gtr (.t 26) (.c (.int .i64 6))) 25 false [26],oq 28 (.pick (.t 25) (.c (.bool true)) (.t 27)
 ) [25,27]]) (.cond (.t 28) (.seq (.reg [om 8 (.c (.int .i64 0)) [],om 9 (.c (.int .i64 1)) []]) (.ret)) (.skip))) (.seq (.seq (.reg [om 29 (.t 2) [],oq 30 (.len true (.t 29)) [29],oq 31 (.bin .gtr (.t 30)
  (.c (.int .i64 1048576))) [30]]) (.cond (.t 31) (.seq (.reg [om 8 (.c (.int .i64 0)) [],om 9 (.c (.int .i64 2)) []]) (.ret)) (.skip))) (.seq (.reg [om 32 (.t 3) [3],oq 33 (.s2b 5 (.t 32)
 ) [32],om 10 (.t 33) [33]]) (.seq (.reg [om 35 (.t 10) [],oq 36 (.call 61 [.t 35]) [35],om 34 (.t 36) [36],oq 37 (.ext (.t 34) 0) [],oq 38 (.ext (.t 34) 1) [],oq 39 (.ext (.t 34) 2)
  [34],om 11 (.t 37) [37],om 12 (.t 38) [38],om 13 (.t 39) [39]]) (.seq (.seq (.reg [om 40 (.t 13) [],oq 41 (.bin .neq (.t 40) (.c (.int .i64 0))) [40]]) (.cond (.t 41) (.seq (.reg [om 42 (.t 13)
  [13],om 8 (.c (.int .i64 0)) [],om 9 (.t 42) [42]]) (.ret)) (.skip))) (.seq (.reg [om 44 (.t 10) [],om 45 (.t 12) [],oq 46 (.slcS 1 (.t 44) (some (.t 45)) none) [44,45],oq 47 (.call 62 [.t 46])
  [46],om 43 (.t 47) [47],oq 48 (.ext (.t 43) 0) [],oq 49 (.ext (.t 43) 1) [],oq 50 (.ext (.t 43) 2) [43],om 14 (.t 48) [48],om 15 (.t 49) [49],om 16 (.t 50) [50]]) (.seq (.seq (.reg [om 51 (.t 16)
  [],oq 52 (.bin .neq (.t 51) (.c (.int .i64 0))) [51]]) (.cond (.t 52) (.seq (.reg [om 53 (.t 16) [16],om 8 (.c (.int .i64 0)) [],om 9 (.t 53) [53]]) (.ret)) (.skip))) (.seq (.reg [om 55 (.t 10)
  [],om 56 (.t 12) [],om 57 (.t 15) [],oq 58 (.bin .add (.t 56) (.t 57)) [56,57],oq 59 (.slcS 1 (.t 55) (some (.t 58)) none) [55,58],oq 60 (.call 63 [.t 59]) [59],om 54 (.t 60) [60],
 oq 61 (.ext (.t 54) 0) [],oq 62 (.ext (.t 54) 1) [],oq 63 (.ext (.t 54) 2) [54],om 17 (.t 61) [61],om 18 (.t 62) [62],om 19 (.t 63) [63]]) (.seq (.seq (.reg [om 64 (.t 19) [],oq 65 (.bin .neq (.t 64)
  (.c (.int .i64 0))) [64]]) (.cond (.t 65) (.seq (.reg [om 66 (.t 19) [19],om 8 (.c (.int .i64 0)) [],om 9 (.t 66) [66]]) (.ret)) (.skip))) (.seq (.seq (.reg [om 67 (.t 12) [12],om 68 (.t 15)
  [15],oq 69 (.bin .add (.t 67) (.t 68)) [67,68],om 70 (.t 18) [18],oq 71 (.bin .add (.t 69) (.t 70)) [69,70],om 72 (.t 10) [10],oq 73 (.len false (.t 72)) [72],oq 74 (.bin .neq (.t 71)
  (.t 73)) [71,73],om 75 (.t 74) [74],og 76 (.mv (.t 11)) 75 false [],og 77 (.bin .lss (.t 76) (.c (.int .i64 0))) 75 false [76],oq 78 (.pick (.t 75) (.c (.bool true)) (.t 77)) [75,77],
 om 79 (.t 78) [78],og 80 (.mv (.t 11)) 79 false [],og 81 (.mv (.t 1)) 79 false [],og 82 (.bin .shl (.c (.int .i64 1)) (.t 81)) 79 false [81],og 83 (.bin .geq (.t 80) (.t 82)) 79 false [80,
 82],oq 84 (.pick (.t 79) (.c (.bool true)) (.t 83)) [79,83],om 85 (.t 84) [84],og 86 (.mv (.t 17)) 85 false [],og 87 (.len false (.t 86)) 85 false [86],og 88 (.mv (.t 1)) 85 false [],
 og 89 (.bin .neq (.t 87) (.t 88)) 85 false [87,88],oq 90 (.pick (.t 85) (.c (.bool true)) (.t 89)) [85,89]]) (.cond (.t 90) (.seq (.reg [om 8 (.c (.int .i64 0)) [],om 9 (.c (.int .i64 6)
 ) []]) (.ret)) (.skip))) (.seq (.reg [oq 92 (.load (some 16) (.t 4)) [],om 93 (.t 11) [],om 94 (.t 2) [2],oq 95 (.callp 26 [.t 92,.t 93,.t 94]) [92,93,94],om 96 (.t 14) [14],oq 97 (.callp 64 [.t 95,
 .t 96]) [95,96],om 91 (.t 97) [97],oq 98 (.ext (.t 91) 0) [],oq 99 (.ext (.t 91) 1) [91],oq 20 (.new 23 [.int .u8 0,.int .u8 0,.int .u8 0,.int .u8 0,.int .u8 0,.int .u8 0,.int .u8 0,
 .int .u8 0,.int .u8 0,.int .u8 0,.int .u8 0,.int .u8 0,.int .u8 0,.int .u8 0,.int .u8 0,.int .u8 0]) [],ov (.store 16 (.t 20) (.t 98)) [98],om 21 (.t 99) [99]]) (.seq (.seq (.reg [om 100 (.t 21)
  [21],oq 101 (.bin .neq (.t 100) (.c (.int .i64 0))) [100]]) (.cond (.t 101) (.seq (.reg [om 8 (.c (.int .i64 0)) [],om 9 (.c (.int .i64 8)) []]) (.ret)) (.skip))) (.seq (.regP 6 [oh 102 (.load (some 16)
  (.t 4)) [] [] [103,104,105,106,107],oh 103 (.mv (.t 1)) [] [] [102,105,106,107],oh 104 (.bin .shl (.c (.int .i64 1)) (.t 103)) [] [1] [102,105,106,107],oh 105 (.mv (.t 11)) [] [] [102,
 103,104,106,107],oh 106 (.load (some 16) (.t 20)) [] [] [102,103,104,105,107],oh 107 (.mv (.t 17)) [1,4,17,20,103] [] [102,103,104,105,106],oh 108 (.call 65 [.t 102,.t 104,.t 105,.t 106,
 .t 107]) [102,104,105,106,107] [0,1,2,3,4,5] [],oh 22 (.mv (.t 108)) [108] [0,1,2,3,4,5,6] []]) (.seq (.seq (.reg [om 109 (.t 22) [22],oq 110 (.un .not (.t 109)) [109]]) (.cond (.t 110)
  (.seq (.reg [om 8 (.c (.int .i64 0)) [],om 9 (.c (.int .i64 8)) []]) (.ret)) (.skip))) (.seq (.reg [om 111 (.t 11) [11],om 8 (.t 111) [111],om 9 (.c (.int .i64 0)) []]) (.ret))))))
 ))))))))))⟩
theorem chk42:chkF Tryz.prog 31 sf42=true:=by kernel_rfl

def sf43:SF:=⟨45,[.t 2,.t 3,.t 4],.seq (.reg [om 2 (.c (.val (.slice none 0 0))) [2],om 3 (.c (.int .i64 0)) [3],om 4 (.c (.int .i64 0)) [4]]) (.seq (.reg [om 14 (.t 0) [],oq 15 (.call 68 [.t 14,
 .c (.int .i64 1)]) [14],om 13 (.t 15) [15],oq 16 (.ext (.t 13) 0) [],oq 17 (.ext (.t 13) 1) [],oq 18 (.ext (.t 13) 2) [13],om 5 (.t 16) [16],om 6 (.t 17) [17],om 7 (.t 18) [18]]) (.seq (.seq (.reg [om 19 (.t 7)
  [],oq 20 (.bin .neq (.t 19) (.c (.int .i64 0))) [19]]) (.cond (.t 20) (.seq (.reg [om 21 (.t 7) [7],om 2 (.c (.val (.slice none 0 0))) [],om 3 (.c (.int .i64 0)) [],om 4 (.t 21) [21]])
  (.ret)) (.skip))) (.seq (.reg [om 22 (.t 0) [0],om 23 (.t 6) [],oq 24 (.call 69 [.t 22,.t 23]) [22,23],om 8 (.t 24) [24]]) (.seq (.reg [om 9 (.c (.val (.slice none 0 0))) []]) (.seq (.seq (.reg [om 25 (.t 5)
  [5],om 26 (.c (.int .i64 0)) []]) (.block 0 (.loop (.seq (.reg [oq 27 (.bin .lss (.t 26) (.t 25)) []]) (.seq (.cond (.t 27) (.skip) (.exit 0)) (.seq (.block 1 (.seq (.reg [om 29 (.t 8)
  [],oq 30 (.callv (.t 29) []) [29],om 28 (.t 30) [30],oq 31 (.ext (.t 28) 0) [],oq 32 (.ext (.t 28) 1) [],oq 33 (.ext (.t 28) 2) [28],om 10 (.t 31) [31],om 11 (.t 32) [32],om 12 (.t 33)
  [33]]) (.seq (.seq (.reg [om 34 (.t 12) [],oq 35 (.bin .neq (.t 34) (.c (.int .i64 0))) [34]]) (.cond (.t 35) (.seq (.reg [om 36 (.t 12) [12],om 2 (.c (.val (.slice none 0 0))) [],
 om 3 (.c (.int .i64 0)) [],om 4 (.t 36) [36]]) (.ret)) (.skip))) (.reg [om 37 (.t 9) [9],om 38 (.t 10) [10],oq 39 (.bslice 3 1 1 [.int .i64 0] [(0,1,.t 38)]) [38],oq 40 (.app 3 1 8 (.t 37)
  (.t 39)) [37,39],om 41 (.t 11) [11],om 9 (.t 40) [40],om 6 (.t 41) [41]])))) (.reg [oq 42 (.bin .add (.t 26) (.c (.int .i64 1))) [26],om 26 (.t 42) [42]]))))))) (.seq (.reg [om 43 (.t 9)
  [9],om 44 (.t 6) [6],om 2 (.t 43) [43],om 3 (.t 44) [44],om 4 (.c (.int .i64 0)) []]) (.ret)))))))⟩
theorem chk43:chkF Tryz.prog 38 sf43=true:=by kernel_rfl

def sf44:SF:=⟨30,[.t 6],.seq (.reg [om 6 (.c (.bool false)) [6]]) (.seq (.seq (.reg [om 7 (.t 0) [],oq 8 (.nilc (.t 7)) [7],oq 9 (.fld (.t 8) 1) [8],oq 10 (.load none (.t 9)) [9],
 oq 11 (.bin .eql (.t 10) (.c (.int .i64 0))) [10]]) (.cond (.t 11) (.reg [om 12 (.t 0) [],om 13 (.t 2) [2],oq 14 (.nilc (.t 12)) [12],oq 15 (.fld (.t 14) 1) [14],ov (.store 1 (.t 15)
  (.t 13)) [13,15]]) (.skip))) (.seq (.seq (.reg [om 16 (.t 0) [],oq 17 (.nilc (.t 16)) [16],oq 18 (.fld (.t 17) 1) [17],oq 19 (.load none (.t 18)) [18],oq 20 (.bin .neq (.t 19) (.c (.int .i64 0)
 )) [19]]) (.cond (.t 20) (.seq (.reg [om 6 (.c (.bool false)) []]) (.ret)) (.skip))) (.seq (.reg [om 21 (.t 0) [],om 22 (.t 0) [0],oq 23 (.nilc (.t 22)) [22],oq 24 (.fld (.t 23) 0) [23],
 oq 25 (.load none (.t 24)) [24],om 26 (.t 1) [1],oq 27 (.slcS 1 (.t 25) (some (.t 26)) none) [25,26],oq 28 (.nilc (.t 21)) [21],oq 29 (.fld (.t 28) 0) [28],ov (.store 1 (.t 29) (.t 27)
 ) [27,29]]) (.seq (.reg [om 6 (.c (.bool true)) []]) (.ret)))))⟩
theorem chk44:chkF Tryz.prog 39 sf44=true:=by kernel_rfl

def sf45:SF:=⟨24,[],.seq (.reg [om 8 (.t 0) [],oq 9 (.nilc (.t 8)) [8],oq 10 (.fld (.t 9) 0) [9],oq 11 (.load none (.t 10)) [10],oq 12 (.call 56 [.t 11]) [11],om 7 (.t 12) [12],
 oq 13 (.ext (.t 7) 0) [],oq 14 (.ext (.t 7) 1) [],oq 15 (.ext (.t 7) 2) [7],om 4 (.t 13) [13],om 5 (.t 14) [14],om 6 (.t 15) [15]]) (.seq (.reg [om 16 (.t 0) [0],om 17 (.t 5) [5],om 18 (.t 6)
  [6],oq 19 (.call 39 [.t 16,.t 17,.t 18]) [16,17,18]]) (.cond (.t 19) (.reg [om 20 (.t 1) [1],om 21 (.t 4) [4],oq 22 (.nilc (.t 20)) [20],oq 23 (.fld (.t 22) 0) [22],ov (.store 1 (.t 23)
  (.t 21)) [21,23]]) (.skip)))⟩
theorem chk45:chkF Tryz.prog 40 sf45=true:=by kernel_rfl

def sf46:SF:=⟨43,[],.seq (.seq (.reg [om 4 (.t 0) [],oq 5 (.nilc (.t 4)) [4],oq 6 (.fld (.t 5) 1) [5],oq 7 (.load none (.t 6)) [6],oq 8 (.bin .eql (.t 7) (.c (.int .i64 0))) [7],
 om 9 (.t 8) [8],og 10 (.mv (.t 0)) 9 true [],og 11 (.nilc (.t 10)) 9 true [10],og 12 (.fld (.t 11) 0) 9 true [11],og 13 (.load none (.t 12)) 9 true [12],og 14 (.len false (.t 13)) 9 true [13],
 og 15 (.bin .lss (.t 14) (.c (.int .i64 16))) 9 true [14],oq 16 (.pick (.t 9) (.t 15) (.c (.bool false))) [9,15]]) (.cond (.t 16) (.reg [om 17 (.t 0) [],oq 18 (.nilc (.t 17)) [17],oq 19 (.fld (.t 18)
  1) [18],ov (.store 1 (.t 19) (.c (.int .i64 5))) [19]]) (.skip))) (.seq (.reg [om 20 (.t 0) [],oq 21 (.nilc (.t 20)) [20],oq 22 (.fld (.t 21) 1) [21],oq 23 (.load none (.t 22)) [22],
 oq 24 (.bin .eql (.t 23) (.c (.int .i64 0))) [23]]) (.cond (.t 24) (.seq (.reg [om 25 (.t 1) [1],om 26 (.t 0) [],oq 27 (.nilc (.t 26)) [26],oq 28 (.fld (.t 27) 0) [27],oq 29 (.load none (.t 28)
 ) [28],oq 30 (.slcS 1 (.t 29) none (some (.c (.int .i64 16)))) [29],oq 31 (.arrAt 16 (.t 30)) [30],oq 32 (.load (some 16) (.t 31)) [31],oq 33 (.nilc (.t 25)) [25],oq 34 (.fld (.t 33)
  1) [33],ov (.store 16 (.t 34) (.t 32)) [32,34]]) (.reg [om 35 (.t 0) [],om 36 (.t 0) [0],oq 37 (.nilc (.t 36)) [36],oq 38 (.fld (.t 37) 0) [37],oq 39 (.load none (.t 38)) [38],oq 40 (.slcS 1 (.t 39)
  (some (.c (.int .i64 16))) none) [39],oq 41 (.nilc (.t 35)) [35],oq 42 (.fld (.t 41) 0) [41],ov (.store 1 (.t 42) (.t 40)) [40,42]])) (.skip)))⟩
theorem chk46:chkF Tryz.prog 41 sf46=true:=by kernel_rfl

def sf47:SF:=⟨24,[],.seq (.reg [om 8 (.t 0) [],oq 9 (.nilc (.t 8)) [8],oq 10 (.fld (.t 9) 0) [9],oq 11 (.load none (.t 10)) [10],oq 12 (.call 55 [.t 11]) [11],om 7 (.t 12) [12],
 oq 13 (.ext (.t 7) 0) [],oq 14 (.ext (.t 7) 1) [],oq 15 (.ext (.t 7) 2) [7],om 4 (.t 13) [13],om 5 (.t 14) [14],om 6 (.t 15) [15]]) (.seq (.reg [om 16 (.t 0) [0],om 17 (.t 5) [5],om 18 (.t 6)
  [6],oq 19 (.call 39 [.t 16,.t 17,.t 18]) [16,17,18]]) (.cond (.t 19) (.reg [om 20 (.t 1) [1],om 21 (.t 4) [4],oq 22 (.nilc (.t 20)) [20],oq 23 (.fld (.t 22) 17) [22],ov (.store 1 (.t 23)
  (.t 21)) [21,23]]) (.skip)))⟩
theorem chk47:chkF Tryz.prog 42 sf47=true:=by kernel_rfl

def sf49:SF:=⟨27,[.t 2,.t 3,.t 4],.seq (.reg [om 2 (.c (.str [])) [2],om 3 (.c (.int .i64 0)) [3],om 4 (.c (.int .i64 0)) [4]]) (.seq (.reg [om 9 (.t 0) [],oq 10 (.call 85 [.t 9,
 .c (.int .i64 1)]) [9],om 8 (.t 10) [10],oq 11 (.ext (.t 8) 0) [],oq 12 (.ext (.t 8) 1) [],oq 13 (.ext (.t 8) 2) [8],om 5 (.t 11) [11],om 6 (.t 12) [12],om 7 (.t 13) [13]]) (.seq (.seq (.reg [om 14 (.t 7)
  [],oq 15 (.bin .neq (.t 14) (.c (.int .i64 0))) [14]]) (.cond (.t 15) (.seq (.reg [om 16 (.t 7) [7],om 2 (.c (.str [])) [],om 3 (.c (.int .i64 0)) [],om 4 (.t 16) [16]]) (.ret)) (.skip)
 )) (.seq (.reg [om 17 (.t 0) [0],om 18 (.t 6) [],om 19 (.t 6) [],om 20 (.t 5) [],oq 21 (.bin .add (.t 19) (.t 20)) [19,20],oq 22 (.slcS 1 (.t 17) (some (.t 18)) (some (.t 21))) [17,
 18,21],oq 23 (.b2s (.t 22)) [22],om 24 (.t 6) [6],om 25 (.t 5) [5],oq 26 (.bin .add (.t 24) (.t 25)) [24,25],om 2 (.t 23) [23],om 3 (.t 26) [26],om 4 (.c (.int .i64 0)) []]) (.ret))
 ))⟩
theorem chk49:chkF Tryz.prog 62 sf49=true:=by kernel_rfl

def sf50:SF:=⟨71,[.t 2,.t 3,.t 4],.seq (.reg [om 2 (.c (.int .i64 0)) [2],om 3 (.c (.int .i64 0)) [3],om 4 (.c (.int .i64 0)) [4]]) (.seq (.seq (.reg [om 11 (.t 0) [],oq 12 (.len false (.t 11)
 ) [11],oq 13 (.bin .eql (.t 12) (.c (.int .i64 0))) [12]]) (.cond (.t 13) (.seq (.reg [om 2 (.c (.int .i64 0)) [],om 3 (.c (.int .i64 0)) [],om 4 (.c (.int .i64 5)) []]) (.ret)) (.skip)
 )) (.seq (.reg [om 14 (.t 0) [],oq 15 (.idxS (.t 14) (.c (.int .i64 0)) 1) [14],oq 16 (.load none (.t 15)) [15],oq 17 (.conv .i64 (.t 16)) [16],om 5 (.t 17) [17]]) (.seq (.seq (.reg [om 18 (.t 5)
  [],oq 19 (.bin .lss (.t 18) (.c (.int .i64 119))) [18],om 20 (.t 19) [19],og 21 (.mv (.t 5)) 20 false [],og 22 (.bin .gtr (.t 21) (.c (.int .i64 136))) 20 false [21],oq 23 (.pick (.t 20)
  (.c (.bool true)) (.t 22)) [20,22]]) (.cond (.t 23) (.seq (.reg [om 2 (.c (.int .i64 0)) [],om 3 (.c (.int .i64 0)) [],om 4 (.c (.int .i64 6)) []]) (.ret)) (.skip))) (.seq (.reg [om 24 (.t 5)
  [],oq 25 (.bin .sub (.t 24) (.c (.int .i64 128))) [24],om 6 (.t 25) [25]]) (.seq (.seq (.reg [om 26 (.t 5) [],oq 27 (.bin .lss (.t 26) (.c (.int .i64 128))) [26]]) (.cond (.t 27) (.reg [om 28 (.t 5)
  [],oq 29 (.bin .sub (.c (.int .i64 127)) (.t 28)) [28],om 6 (.t 29) [29]]) (.skip))) (.seq (.seq (.reg [om 30 (.t 0) [],oq 31 (.len false (.t 30)) [30],om 32 (.t 6) [],oq 33 (.bin .add (.t 32)
  (.c (.int .i64 1))) [32],oq 34 (.bin .lss (.t 31) (.t 33)) [31,33]]) (.cond (.t 34) (.seq (.reg [om 2 (.c (.int .i64 0)) [],om 3 (.c (.int .i64 0)) [],om 4 (.c (.int .i64 5)) []]) (.ret)
 ) (.skip))) (.seq (.reg [om 7 (.c (.int .i64 0)) []]) (.seq (.seq (.reg [om 8 (.c (.int .i64 1)) []]) (.block 0 (.loop (.seq (.seq (.reg [om 35 (.t 8) [],om 36 (.t 6) [],oq 37 (.bin .leq (.t 35)
  (.t 36)) [35,36]]) (.cond (.t 37) (.skip) (.exit 0))) (.seq (.block 1 (.seq (.reg [om 40 (.t 0) [],om 41 (.t 8) [],oq 42 (.idxS (.t 40) (.t 41) 1) [40,41],oq 43 (.load none (.t 42)
 ) [42],oq 44 (.conv .i64 (.t 43)) [43],om 9 (.t 44) [44]]) (.seq (.seq (.reg [om 45 (.t 5) [],oq 46 (.bin .lss (.t 45) (.c (.int .i64 128))) [45]]) (.cond (.t 46) (.reg [om 47 (.t 9)
  [9],oq 48 (.bin .sub (.c (.int .i64 255)) (.t 47)) [47],om 9 (.t 48) [48]]) (.skip))) (.seq (.seq (.reg [om 49 (.t 7) [],oq 50 (.bin .gtr (.t 49) (.c (.int .i64 36028797018963967))
 ) [49]]) (.cond (.t 50) (.seq (.reg [om 2 (.c (.int .i64 0)) [],om 3 (.c (.int .i64 0)) [],om 4 (.c (.int .i64 6)) []]) (.ret)) (.skip))) (.reg [om 51 (.t 7) [7],oq 52 (.bin .mul (.c (.int .i64 256)
 ) (.t 51)) [51],om 53 (.t 9) [9],oq 54 (.bin .add (.t 52) (.t 53)) [52,53],om 7 (.t 54) [54]]))))) (.reg [om 38 (.t 8) [8],oq 39 (.bin .add (.t 38) (.c (.int .i64 1))) [38],om 8 (.t 39)
  [39]])))))) (.seq (.reg [om 55 (.t 7) [],om 10 (.t 55) [55]]) (.seq (.seq (.reg [om 56 (.t 5) [5],oq 57 (.bin .lss (.t 56) (.c (.int .i64 128))) [56]]) (.cond (.t 57) (.reg [om 58 (.t 7)
  [7],oq 59 (.bin .sub (.c (.int .i64 (-1))) (.t 58)) [58],om 10 (.t 59) [59]]) (.skip))) (.seq (.seq (.regD 6 [oh 60 (.mv (.t 10)) [] [] [62,63,64,65],oh 61 (.call 27 [.t 60]) [] [0] [62,
 63,64,65],oh 62 (.mv (.t 0)) [] [] [60,61,63,64],oh 63 (.mv (.t 6)) [] [] [60,61,62],oh 64 (.bin .add (.t 63) (.c (.int .i64 1))) [] [3] [60,61,62],oh 65 (.slcS 1 (.t 62) none (some (.t 64)
 )) [0,60,62,63,64] [2,3,4] [60,61],oh 66 (.call 84 [.t 61,.t 65]) [61,65] [0,1,2,3,4,5] [],oh 67 (.un .not (.t 66)) [66] [0,1,2,3,4,5,6] []]) (.cond (.t 67) (.seq (.reg [om 2 (.c (.int .i64 0)
 ) [],om 3 (.c (.int .i64 0)) [],om 4 (.c (.int .i64 6)) []]) (.ret)) (.skip))) (.seq (.reg [om 68 (.t 10) [10],om 69 (.t 6) [6],oq 70 (.bin .add (.t 69) (.c (.int .i64 1))) [69],om 2 (.t 68)
  [68],om 3 (.t 70) [70],om 4 (.c (.int .i64 0)) []]) (.ret)))))))))))))⟩
theorem chk50:chkF Tryz.prog 61 sf50=true:=by kernel_rfl

def sf51:SF:=⟨27,[.t 4],.seq (.reg [om 4 (.c (.val (.slice none 0 0))) [4]]) (.seq (.seq (.reg [om 5 (.t 1) [],oq 6 (.bin .lss (.t 5) (.c (.int .i64 0))) [5]]) (.cond (.t 6) (.bad)
  (.skip))) (.seq (.seq (.reg [om 8 (.t 1) [1],om 9 (.t 0) [],oq 10 (.capN (.t 9)) [9],om 11 (.t 0) [],oq 12 (.len false (.t 11)) [11],oq 13 (.bin .sub (.t 10) (.t 12)) [10,12],oq 14 (.bin .sub (.t 8)
  (.t 13)) [8,13],om 1 (.t 14) [14]]) (.seq (.reg [om 15 (.t 1) [],oq 16 (.bin .gtr (.t 15) (.c (.int .i64 0))) [15]]) (.cond (.t 16) (.reg [om 17 (.t 0) [],om 18 (.t 0) [],oq 19 (.capN (.t 18)
 ) [18],oq 20 (.slcS 1 (.t 17) none (some (.t 19))) [17,19],om 21 (.t 1) [1],oq 22 (.appZ 5 1 1 [.int .u8 0] (.t 20) (.t 21)) [20,21],om 23 (.t 0) [0],oq 24 (.len false (.t 23)) [23],
 oq 25 (.slcS 1 (.t 22) none (some (.t 24))) [22,24],om 0 (.t 25) [25]]) (.skip)))) (.seq (.reg [om 26 (.t 0) [0],om 4 (.t 26) [26]]) (.ret))))⟩
theorem chk51:chkF Tryz.prog 47 sf51=true:=by kernel_rfl

def sf52:SF:=⟨3,[.c 0 (some 73)],.seq (.reg [oq 0 (.new 118 [.int .u32 0,.int .u32 0,.int .u32 0,.int .u32 0,.int .u32 0,.int .u32 0,.int .u32 0,.int .u32 0,.int .u8 0,.int .u8 0,
 .int .u8 0,.int .u8 0,.int .u8 0,.int .u8 0,.int .u8 0,.int .u8 0,.int .u8 0,.int .u8 0,.int .u8 0,.int .u8 0,.int .u8 0,.int .u8 0,.int .u8 0,.int .u8 0,.int .u8 0,.int .u8 0,.int .u8 0,
 .int .u8 0,.int .u8 0,.int .u8 0,.int .u8 0,.int .u8 0,.int .u8 0,.int .u8 0,.int .u8 0,.int .u8 0,.int .u8 0,.int .u8 0,.int .u8 0,.int .u8 0,.int .u8 0,.int .u8 0,.int .u8 0,.int .u8 0,
 .int .u8 0,.int .u8 0,.int .u8 0,.int .u8 0,.int .u8 0,.int .u8 0,.int .u8 0,.int .u8 0,.int .u8 0,.int .u8 0,.int .u8 0,.int .u8 0,.int .u8 0,.int .u8 0,.int .u8 0,.int .u8 0,.int .u8 0,
 .int .u8 0,.int .u8 0,.int .u8 0,.int .u8 0,.int .u8 0,.int .u8 0,.int .u8 0,.int .u8 0,.int .u8 0,.int .u8 0,.int .u8 0,.int .u64 0]) []]) (.seq (.reg [oq 1 (.build [.int .u32 0,.int .u32 0,
 .int .u32 0,.int .u32 0,.int .u32 0,.int .u32 0,.int .u32 0,.int .u32 0] [(0,1,.c (.int .u32 1779033703)),(1,1,.c (.int .u32 3144134277)),(2,1,.c (.int .u32 1013904242)),(3,1,.c (.int .u32 2773480762)
 ),(4,1,.c (.int .u32 1359893119)),(5,1,.c (.int .u32 2600822924)),(6,1,.c (.int .u32 528734635)),(7,1,.c (.int .u32 1541459225))]) [],oq 2 (.build [.int .u32 0,.int .u32 0,.int .u32 0,
 .int .u32 0,.int .u32 0,.int .u32 0,.int .u32 0,.int .u32 0,.int .u8 0,.int .u8 0,.int .u8 0,.int .u8 0,.int .u8 0,.int .u8 0,.int .u8 0,.int .u8 0,.int .u8 0,.int .u8 0,.int .u8 0,
 .int .u8 0,.int .u8 0,.int .u8 0,.int .u8 0,.int .u8 0,.int .u8 0,.int .u8 0,.int .u8 0,.int .u8 0,.int .u8 0,.int .u8 0,.int .u8 0,.int .u8 0,.int .u8 0,.int .u8 0,.int .u8 0,.int .u8 0,
 .int .u8 0,.int .u8 0,.int .u8 0,.int .u8 0,.int .u8 0,.int .u8 0,.int .u8 0,.int .u8 0,.int .u8 0,.int .u8 0,.int .u8 0,.int .u8 0,.int .u8 0,.int .u8 0,.int .u8 0,.int .u8 0,.int .u8 0,
 .int .u8 0,.int .u8 0,.int .u8 0,.int .u8 0,.int .u8 0,.int .u8 0,.int .u8 0,.int .u8 0,.int .u8 0,.int .u8 0,.int .u8 0,.int .u8 0,.int .u8 0,.int .u8 0,.int .u8 0,.int .u8 0,.int .u8 0,
 .int .u8 0,.int .u8 0,.int .u64 0] [(0,8,.t 1)]) [1],ov (.store 73 (.t 0) (.t 2)) [2]]) (.ret))⟩
theorem chk52:chkF Tryz.prog 70 sf52=true:=by kernel_rfl

def sf53:SF:=⟨38,[.c 4 (some 73)],.seq (.reg [oq 2 (.box 118 (.t 0)) [0],oq 4 (.new 118 [.int .u32 0,.int .u32 0,.int .u32 0,.int .u32 0,.int .u32 0,.int .u32 0,.int .u32 0,.int .u32 0,
 .int .u8 0,.int .u8 0,.int .u8 0,.int .u8 0,.int .u8 0,.int .u8 0,.int .u8 0,.int .u8 0,.int .u8 0,.int .u8 0,.int .u8 0,.int .u8 0,.int .u8 0,.int .u8 0,.int .u8 0,.int .u8 0,.int .u8 0,
 .int .u8 0,.int .u8 0,.int .u8 0,.int .u8 0,.int .u8 0,.int .u8 0,.int .u8 0,.int .u8 0,.int .u8 0,.int .u8 0,.int .u8 0,.int .u8 0,.int .u8 0,.int .u8 0,.int .u8 0,.int .u8 0,.int .u8 0,
 .int .u8 0,.int .u8 0,.int .u8 0,.int .u8 0,.int .u8 0,.int .u8 0,.int .u8 0,.int .u8 0,.int .u8 0,.int .u8 0,.int .u8 0,.int .u8 0,.int .u8 0,.int .u8 0,.int .u8 0,.int .u8 0,.int .u8 0,
 .int .u8 0,.int .u8 0,.int .u8 0,.int .u8 0,.int .u8 0,.int .u8 0,.int .u8 0,.int .u8 0,.int .u8 0,.int .u8 0,.int .u8 0,.int .u8 0,.int .u8 0,.int .u64 0]) []]) (.seq (.block 0 (.loop (.seq (.seq (.reg [om 7 (.t 1)
  [],oq 8 (.bin .neq (.t 7) (.c (.str []))) [7]]) (.cond (.t 8) (.skip) (.exit 0))) (.block 1 (.seq (.reg [oq 9 (.fld (.t 2) 72) [],oq 10 (.load none (.t 9)) [9],oq 11 (.bin .rem (.t 10)
  (.c (.int .u64 64))) [10],oq 12 (.conv .i64 (.t 11)) [11],om 5 (.t 12) [12]]) (.seq (.reg [oq 13 (.fld (.t 2) 8) [],om 14 (.t 5) [],oq 15 (.slcA 64 1 (.t 13) (some (.t 14)) none) [13,
 14],om 16 (.t 1) [],oq 17 (.copy 1 (.t 15) (.t 16)) [15,16],om 6 (.t 17) [17]]) (.seq (.reg [om 18 (.t 1) [1],om 19 (.t 6) [],oq 20 (.slcT (.t 18) (some (.t 19)) none) [18,19],om 1 (.t 20)
  [20]]) (.seq (.reg [oq 21 (.fld (.t 2) 72) [],oq 22 (.load none (.t 21)) [21],om 23 (.t 6) [],oq 24 (.conv .u64 (.t 23)) [23],oq 25 (.bin .add (.t 22) (.t 24)) [22,24],oq 26 (.fld (.t 2)
  72) [],ov (.store 1 (.t 26) (.t 25)) [25,26]]) (.seq (.reg [om 27 (.t 5) [5],om 28 (.t 6) [6],oq 29 (.bin .add (.t 27) (.t 28)) [27,28],oq 30 (.bin .eql (.t 29) (.c (.int .i64 64))
 ) [29]]) (.cond (.t 30) (.regD 4 [oh 31 (.fld (.t 2) 0) [] [] [33,34],oh 32 (.load (some 8) (.t 31)) [] [0] [33,34],oh 33 (.fld (.t 2) 8) [] [] [31,32],oh 34 (.slcA 64 1 (.t 33) none none)
  [31,33] [2] [31,32],oh 35 (.call 90 [.t 32,.t 34]) [32,34] [0,1,2,3] [],oh 36 (.fld (.t 2) 0) [] [0,1,2,3,4] [],⟨none,.store 8 (.t 36) (.t 35),none,[35,36],[0,1,2,3,4,5],[]⟩]) (.skip)
 )))))))))) (.seq (.reg [oq 37 (.load (some 73) (.t 2)) [2],ov (.store 73 (.t 4) (.t 37)) [37]]) (.ret)))⟩
theorem chk53:chkF Tryz.prog 71 sf53=true:=by kernel_rfl

def sf54:SF:=⟨58,[.c 2 (some 32)],.seq (.reg [oq 1 (.box 118 (.t 0)) [0],oq 2 (.new 121 [.int .u8 0,.int .u8 0,.int .u8 0,.int .u8 0,.int .u8 0,.int .u8 0,.int .u8 0,.int .u8 0,
 .int .u8 0,.int .u8 0,.int .u8 0,.int .u8 0,.int .u8 0,.int .u8 0,.int .u8 0,.int .u8 0,.int .u8 0,.int .u8 0,.int .u8 0,.int .u8 0,.int .u8 0,.int .u8 0,.int .u8 0,.int .u8 0,.int .u8 0,
 .int .u8 0,.int .u8 0,.int .u8 0,.int .u8 0,.int .u8 0,.int .u8 0,.int .u8 0]) []]) (.seq (.reg [oq 8 (.fld (.t 1) 72) [],oq 9 (.load none (.t 8)) [8],oq 10 (.bin .mul (.c (.int .u64 8)
 ) (.t 9)) [9],om 3 (.t 10) [10]]) (.seq (.reg [oq 11 (.bslice 5 1 1 [.int .u8 0] [(0,1,.c (.int .u8 128))]) [],om 4 (.t 11) [11]]) (.seq (.block 0 (.loop (.seq (.seq (.reg [oq 12 (.fld (.t 1)
  72) [],oq 13 (.load none (.t 12)) [12],oq 14 (.conv .i64 (.t 13)) [13],om 15 (.t 4) [],oq 16 (.len false (.t 15)) [15],oq 17 (.bin .add (.t 14) (.t 16)) [14,16],oq 18 (.bin .rem (.t 17)
  (.c (.int .i64 64))) [17],oq 19 (.bin .neq (.t 18) (.c (.int .i64 56))) [18]]) (.cond (.t 19) (.skip) (.exit 0))) (.block 1 (.reg [om 20 (.t 4) [4],oq 21 (.bslice 5 1 1 [.int .u8 0] [(0,
 1,.c (.int .u8 0))]) [],oq 22 (.app 5 1 1 (.t 20) (.t 21)) [20,21],om 4 (.t 22) [22]]))))) (.seq (.seq (.reg [om 23 (.c (.int .i64 0)) []]) (.block 2 (.loop (.seq (.reg [oq 24 (.bin .lss (.t 23)
  (.c (.int .i64 8))) []]) (.seq (.cond (.t 24) (.skip) (.exit 2)) (.seq (.block 3 (.seq (.reg [om 25 (.t 23) [],om 5 (.t 25) [25]]) (.reg [om 26 (.t 4) [4],om 27 (.t 3) [],om 28 (.t 5)
  [5],oq 29 (.bin .mul (.c (.int .i64 8)) (.t 28)) [28],oq 30 (.bin .sub (.c (.int .i64 56)) (.t 29)) [29],oq 31 (.bin .shr (.t 27) (.t 30)) [27,30],oq 32 (.conv .u8 (.t 31)) [31],oq 33 (.bslice 5 1 1 [.int .u8 0] [(0,
 1,.t 32)]) [32],oq 34 (.app 5 1 1 (.t 26) (.t 33)) [26,33],om 4 (.t 34) [34]]))) (.reg [oq 35 (.bin .add (.t 23) (.c (.int .i64 1))) [23],om 23 (.t 35) [35]]))))))) (.seq (.reg [oq 36 (.load (some 73)
  (.t 1)) [],om 37 (.t 4) [4],oq 38 (.b2s (.t 37)) [37],oq 39 (.callp 71 [.t 36,.t 38]) [36,38],ov (.store 73 (.t 1) (.t 39)) [39]]) (.seq (.reg [oq 6 (.new 121 [.int .u8 0,.int .u8 0,
 .int .u8 0,.int .u8 0,.int .u8 0,.int .u8 0,.int .u8 0,.int .u8 0,.int .u8 0,.int .u8 0,.int .u8 0,.int .u8 0,.int .u8 0,.int .u8 0,.int .u8 0,.int .u8 0,.int .u8 0,.int .u8 0,.int .u8 0,
 .int .u8 0,.int .u8 0,.int .u8 0,.int .u8 0,.int .u8 0,.int .u8 0,.int .u8 0,.int .u8 0,.int .u8 0,.int .u8 0,.int .u8 0,.int .u8 0,.int .u8 0]) []]) (.seq (.seq (.reg [om 40 (.c (.int .i64 0)
 ) []]) (.block 4 (.loop (.seq (.reg [oq 41 (.bin .lss (.t 40) (.c (.int .i64 32))) []]) (.seq (.cond (.t 41) (.skip) (.exit 4)) (.seq (.block 5 (.seq (.reg [om 42 (.t 40) [],om 7 (.t 42)
  [42]]) (.reg [om 43 (.t 7) [],om 44 (.t 7) [],oq 45 (.bin .quo (.t 44) (.c (.int .i64 4))) [44],oq 46 (.fld (.t 1) 0) [],oq 47 (.idxA (.t 46) (.t 45) 8 1) [45,46],oq 48 (.load none (.t 47)
 ) [47],om 49 (.t 7) [7],oq 50 (.bin .rem (.t 49) (.c (.int .i64 4))) [49],oq 51 (.bin .mul (.c (.int .i64 8)) (.t 50)) [50],oq 52 (.bin .sub (.c (.int .i64 24)) (.t 51)) [51],oq 53 (.bin .shr (.t 48)
  (.t 52)) [48,52],oq 54 (.conv .u8 (.t 53)) [53],oq 55 (.idxA (.t 6) (.t 43) 32 1) [43],ov (.store 1 (.t 55) (.t 54)) [54,55]]))) (.reg [oq 56 (.bin .add (.t 40) (.c (.int .i64 1)))
  [40],om 40 (.t 56) [56]]))))))) (.seq (.reg [oq 57 (.load (some 32) (.t 6)) [6],ov (.store 32 (.t 2) (.t 57)) [57]]) (.ret)))))))))⟩
theorem chk54:chkF Tryz.prog 72 sf54=true:=by kernel_rfl

def sf55:SF:=⟨19,[.c 2 (some 16)],.seq (.reg [oq 2 (.new 23 [.int .u8 0,.int .u8 0,.int .u8 0,.int .u8 0,.int .u8 0,.int .u8 0,.int .u8 0,.int .u8 0,.int .u8 0,.int .u8 0,.int .u8 0,
 .int .u8 0,.int .u8 0,.int .u8 0,.int .u8 0,.int .u8 0]) []]) (.seq (.reg [om 6 (.t 0) [0],oq 7 (.call 88 [.t 6]) [6],oq 3 (.new 121 [.int .u8 0,.int .u8 0,.int .u8 0,.int .u8 0,.int .u8 0,
 .int .u8 0,.int .u8 0,.int .u8 0,.int .u8 0,.int .u8 0,.int .u8 0,.int .u8 0,.int .u8 0,.int .u8 0,.int .u8 0,.int .u8 0,.int .u8 0,.int .u8 0,.int .u8 0,.int .u8 0,.int .u8 0,.int .u8 0,
 .int .u8 0,.int .u8 0,.int .u8 0,.int .u8 0,.int .u8 0,.int .u8 0,.int .u8 0,.int .u8 0,.int .u8 0,.int .u8 0]) [],ov (.store 32 (.t 3) (.t 7)) [7]]) (.seq (.reg [oq 8 (.build [.int .u8 0,
 .int .u8 0,.int .u8 0,.int .u8 0,.int .u8 0,.int .u8 0,.int .u8 0,.int .u8 0,.int .u8 0,.int .u8 0,.int .u8 0,.int .u8 0,.int .u8 0,.int .u8 0,.int .u8 0,.int .u8 0] []) [],oq 4 (.new 23 [.int .u8 0,
 .int .u8 0,.int .u8 0,.int .u8 0,.int .u8 0,.int .u8 0,.int .u8 0,.int .u8 0,.int .u8 0,.int .u8 0,.int .u8 0,.int .u8 0,.int .u8 0,.int .u8 0,.int .u8 0,.int .u8 0]) [],ov (.store 16 (.t 4)
  (.t 8)) [8]]) (.seq (.seq (.reg [om 5 (.c (.int .i64 0)) []]) (.block 0 (.loop (.seq (.seq (.reg [om 9 (.t 5) [],oq 10 (.bin .lss (.t 9) (.c (.int .i64 16))) [9]]) (.cond (.t 10) (.skip)
  (.exit 0))) (.seq (.block 1 (.reg [om 13 (.t 5) [],om 14 (.t 5) [],oq 15 (.idxA (.t 3) (.t 14) 32 1) [14],oq 16 (.load none (.t 15)) [15],oq 17 (.idxA (.t 4) (.t 13) 16 1) [13],ov (.store 1 (.t 17)
  (.t 16)) [16,17]])) (.reg [om 11 (.t 5) [5],oq 12 (.bin .add (.t 11) (.c (.int .i64 1))) [11],om 5 (.t 12) [12]])))))) (.seq (.reg [oq 18 (.load (some 16) (.t 4)) [4],ov (.store 16 (.t 2)
  (.t 18)) [18]]) (.ret)))))⟩
theorem chk55:chkF Tryz.prog 66 sf55=true:=by kernel_rfl

def sf56:SF:=⟨24,[.t 4],.seq (.reg [om 4 (.c (.val (.slice none 0 0))) [4]]) (.seq (.reg [om 7 (.t 0) [0],oq 8 (.conv .u8 (.t 7)) [7],oq 9 (.bslice 5 1 1 [.int .u8 0] [(0,1,.t 8)
 ]) [8],om 5 (.t 9) [9]]) (.seq (.seq (.reg [om 6 (.c (.int .i64 0)) []]) (.block 0 (.loop (.seq (.seq (.reg [om 10 (.t 6) [],om 11 (.t 1) [],oq 12 (.len false (.t 11)) [11],oq 13 (.bin .lss (.t 10)
  (.t 12)) [10,12]]) (.cond (.t 13) (.skip) (.exit 0))) (.seq (.block 1 (.reg [om 16 (.t 5) [5],om 17 (.t 1) [],om 18 (.t 6) [],oq 19 (.idxS (.t 17) (.t 18) 1) [17,18],oq 20 (.load none (.t 19)
 ) [19],oq 21 (.call 28 [.t 20]) [20],oq 22 (.app 5 1 1 (.t 16) (.t 21)) [16,21],om 5 (.t 22) [22]])) (.reg [om 14 (.t 6) [6],oq 15 (.bin .add (.t 14) (.c (.int .i64 1))) [14],om 6 (.t 15)
  [15]])))))) (.seq (.reg [om 23 (.t 5) [5],om 4 (.t 23) [23]]) (.ret))))⟩
theorem chk56:chkF Tryz.prog 67 sf56=true:=by kernel_rfl

def sf57:SF:=⟨9,[.t 2],.seq (.reg [om 2 (.c (.bool false)) [2]]) (.seq (.reg [om 3 (.t 0) [],oq 4 (.bin .geq (.t 3) (.c (.int .i64 0))) [3],om 5 (.t 4) [4],og 6 (.mv (.t 0)) 5 true [0],
 og 7 (.bin .leq (.t 6) (.c (.int .i64 6))) 5 true [6],oq 8 (.pick (.t 5) (.t 7) (.c (.bool false))) [5,7],om 2 (.t 8) [8]]) (.ret))⟩
theorem chk57:chkF Tryz.prog 53 sf57=true:=by kernel_rfl

def sf58:SF:=⟨12,[.t 2,.t 3],.seq (.reg [om 2 (.c (.val .nilFunc)) [2],om 3 (.c (.val .nilFunc)) [3]]) (.seq (.reg [om 7 (.t 0) [0],oq 8 (.s2b 5 (.t 7)) [7],oq 4 (.new 55 [.val (.slice none 0 0)
 ]) [],oq 5 (.new 26 [.int .i64 0]) [],ov (.store 1 (.t 4) (.t 8)) [8],ov (.store 1 (.t 5) (.c (.int .i64 0))) []]) (.seq (.reg [oq 9 (.mkfn 76 [] [.t 5,.t 4]) [],om 6 (.t 9) [9]]) (.seq (.reg [om 10 (.t 6)
  [6],oq 11 (.mkfn 77 [] [.t 4,.t 5]) [4,5],om 2 (.t 10) [10],om 3 (.t 11) [11]]) (.ret))))⟩
theorem chk58:chkF Tryz.prog 54 sf58=true:=by kernel_rfl

def sf59:SF:=⟨71,[.t 2,.t 3,.t 4],.seq (.reg [om 2 (.c (.int .i64 0)) [2],om 3 (.c (.int .i64 0)) [3],om 4 (.c (.int .i64 0)) [4]]) (.seq (.seq (.reg [om 10 (.t 0) [],oq 11 (.len false (.t 10)
 ) [10],oq 12 (.bin .eql (.t 11) (.c (.int .i64 0))) [11]]) (.cond (.t 12) (.seq (.reg [om 2 (.c (.int .i64 0)) [],om 3 (.c (.int .i64 0)) [],om 4 (.c (.int .i64 5)) []]) (.ret)) (.skip)
 )) (.seq (.reg [om 5 (.c (.int .u8 0)) []]) (.seq (.seq (.reg [om 13 (.t 0) [],oq 14 (.idxS (.t 13) (.c (.int .i64 0)) 1) [13],oq 15 (.load none (.t 14)) [14],oq 16 (.bin .lss (.t 15)
  (.c (.int .u8 128))) [15]]) (.cond (.t 16) (.reg [om 5 (.c (.int .u8 255)) []]) (.skip))) (.seq (.reg [om 17 (.t 0) [],oq 18 (.idxS (.t 17) (.c (.int .i64 0)) 1) [17],oq 19 (.load none (.t 18)
 ) [18],om 20 (.t 5) [],oq 21 (.bin .xor (.t 19) (.t 20)) [19,20],oq 22 (.conv .i64 (.t 21)) [21],oq 23 (.bin .sub (.t 22) (.c (.int .i64 128))) [22],om 6 (.t 23) [23]]) (.seq (.block 0 (.seq (.reg [om 25 (.t 6)
  [],oq 26 (.bin .gtr (.t 25) (.c (.int .i64 8))) [25],om 24 (.t 26) [26]]) (.cond (.t 24) (.seq (.reg [om 2 (.c (.int .i64 0)) [],om 3 (.c (.int .i64 0)) [],om 4 (.c (.int .i64 6)) []])
  (.ret)) (.seq (.reg [om 28 (.t 0) [],oq 29 (.len false (.t 28)) [28],om 30 (.t 6) [],oq 31 (.bin .leq (.t 29) (.t 30)) [29,30],om 27 (.t 31) [31]]) (.cond (.t 27) (.seq (.reg [om 2 (.c (.int .i64 0)
 ) [],om 3 (.c (.int .i64 0)) [],om 4 (.c (.int .i64 5)) []]) (.ret)) (.seq (.reg [om 33 (.t 6) [],oq 34 (.bin .gtr (.t 33) (.c (.int .i64 0))) [33],om 35 (.t 34) [34],og 36 (.mv (.t 0)
 ) 35 true [],og 37 (.idxS (.t 36) (.c (.int .i64 1)) 1) 35 true [36],og 38 (.load none (.t 37)) 35 true [37],og 39 (.mv (.t 5)) 35 true [],og 40 (.bin .xor (.t 38) (.t 39)) 35 true [38,
 39],og 41 (.bin .eql (.t 40) (.c (.int .u8 0))) 35 true [40],oq 42 (.pick (.t 35) (.t 41) (.c (.bool false))) [35,41],om 32 (.t 42) [42]]) (.cond (.t 32) (.seq (.reg [om 2 (.c (.int .i64 0)
 ) [],om 3 (.c (.int .i64 0)) [],om 4 (.c (.int .i64 6)) []]) (.ret)) (.skip)))))))) (.seq (.reg [om 7 (.c (.int .u64 0)) []]) (.seq (.seq (.reg [om 43 (.t 0) [0],om 44 (.t 6) [],oq 45 (.bin .add (.t 44)
  (.c (.int .i64 1))) [44],oq 46 (.slcS 1 (.t 43) (some (.c (.int .i64 1))) (some (.t 45))) [43,45],oq 47 (.len false (.t 46)) [],om 48 (.c (.int .i64 0)) []]) (.block 1 (.loop (.seq (.reg [oq 49 (.bin .lss (.t 48)
  (.t 47)) []]) (.seq (.cond (.t 49) (.skip) (.exit 1)) (.seq (.block 2 (.seq (.reg [oq 50 (.idxS (.t 46) (.t 48) 1) [],oq 51 (.load none (.t 50)) [50],om 9 (.t 51) [51]]) (.reg [om 52 (.t 7)
  [7],oq 53 (.bin .shl (.t 52) (.c (.int .u64 8))) [52],om 54 (.t 9) [9],om 55 (.t 5) [],oq 56 (.bin .xor (.t 54) (.t 55)) [54,55],oq 57 (.conv .u64 (.t 56)) [56],oq 58 (.bin .or (.t 53)
  (.t 57)) [53,57],om 7 (.t 58) [58]]))) (.reg [oq 59 (.bin .add (.t 48) (.c (.int .i64 1))) [48],om 48 (.t 59) [59]]))))))) (.seq (.seq (.reg [om 60 (.t 7) [],oq 61 (.bin .shr (.t 60)
  (.c (.int .u64 63))) [60],oq 62 (.bin .gtr (.t 61) (.c (.int .u64 0))) [61]]) (.cond (.t 62) (.seq (.reg [om 2 (.c (.int .i64 0)) [],om 3 (.c (.int .i64 0)) [],om 4 (.c (.int .i64 6)
 ) []]) (.ret)) (.skip))) (.seq (.seq (.reg [om 63 (.t 5) [5],oq 64 (.bin .gtr (.t 63) (.c (.int .u8 0))) [63]]) (.cond (.t 64) (.reg [om 65 (.t 7) [7],oq 66 (.un .xor (.t 65)) [65],
 om 7 (.t 66) [66]]) (.skip))) (.seq (.reg [om 67 (.t 7) [7],oq 68 (.conv .i64 (.t 67)) [67],om 69 (.t 6) [6],oq 70 (.bin .add (.t 69) (.c (.int .i64 1))) [69],om 2 (.t 68) [68],om 3 (.t 70)
  [70],om 4 (.c (.int .i64 0)) []]) (.ret)))))))))))⟩
theorem chk59:chkF Tryz.prog 55 sf59=true:=by kernel_rfl

def sf60:SF:=⟨27,[.t 2,.t 3,.t 4],.seq (.reg [om 2 (.c (.str [])) [2],om 3 (.c (.int .i64 0)) [3],om 4 (.c (.int .i64 0)) [4]]) (.seq (.reg [om 9 (.t 0) [],oq 10 (.call 68 [.t 9,
 .c (.int .i64 1)]) [9],om 8 (.t 10) [10],oq 11 (.ext (.t 8) 0) [],oq 12 (.ext (.t 8) 1) [],oq 13 (.ext (.t 8) 2) [8],om 5 (.t 11) [11],om 6 (.t 12) [12],om 7 (.t 13) [13]]) (.seq (.seq (.reg [om 14 (.t 7)
  [],oq 15 (.bin .neq (.t 14) (.c (.int .i64 0))) [14]]) (.cond (.t 15) (.seq (.reg [om 16 (.t 7) [7],om 2 (.c (.str [])) [],om 3 (.c (.int .i64 0)) [],om 4 (.t 16) [16]]) (.ret)) (.skip)
 )) (.seq (.reg [om 17 (.t 0) [0],om 18 (.t 6) [],om 19 (.t 6) [],om 20 (.t 5) [],oq 21 (.bin .add (.t 19) (.t 20)) [19,20],oq 22 (.slcS 1 (.t 17) (some (.t 18)) (some (.t 21))) [17,
 18,21],oq 23 (.b2s (.t 22)) [22],om 24 (.t 6) [6],om 25 (.t 5) [5],oq 26 (.bin .add (.t 24) (.t 25)) [24,25],om 2 (.t 23) [23],om 3 (.t 26) [26],om 4 (.c (.int .i64 0)) []]) (.ret))
 ))⟩
theorem chk60:chkF Tryz.prog 56 sf60=true:=by kernel_rfl

def sf61:SF:=⟨36,[.t 2,.t 3,.t 4],.seq (.reg [om 2 (.c (.val (.slice none 0 0))) [2],om 3 (.c (.int .i64 0)) [3],om 4 (.c (.int .i64 0)) [4]]) (.seq (.reg [om 10 (.t 0) [],oq 11 (.call 68 [.t 10,
 .c (.int .i64 16)]) [10],om 9 (.t 11) [11],oq 12 (.ext (.t 9) 0) [],oq 13 (.ext (.t 9) 1) [],oq 14 (.ext (.t 9) 2) [9],om 5 (.t 12) [12],om 6 (.t 13) [13],om 7 (.t 14) [14]]) (.seq (.seq (.reg [om 15 (.t 7)
  [],oq 16 (.bin .neq (.t 15) (.c (.int .i64 0))) [15]]) (.cond (.t 16) (.seq (.reg [om 17 (.t 7) [7],om 2 (.c (.val (.slice none 0 0))) [],om 3 (.c (.int .i64 0)) [],om 4 (.t 17) [17]])
  (.ret)) (.skip))) (.seq (.reg [om 8 (.c (.val (.slice none 0 0))) []]) (.seq (.seq (.reg [om 18 (.t 5) [5],om 19 (.c (.int .i64 0)) []]) (.block 0 (.loop (.seq (.reg [oq 20 (.bin .lss (.t 19)
  (.t 18)) []]) (.seq (.cond (.t 20) (.skip) (.exit 0)) (.seq (.block 1 (.seq (.reg [om 21 (.t 8) [8],om 22 (.t 0) [],om 23 (.t 6) [],om 24 (.t 6) [],oq 25 (.bin .add (.t 24) (.c (.int .i64 16)
 )) [24],oq 26 (.slcS 1 (.t 22) (some (.t 23)) (some (.t 25))) [22,23,25],oq 27 (.arrAt 16 (.t 26)) [26],oq 28 (.load (some 16) (.t 27)) [27],oq 29 (.bslice 23 16 1 [.int .u8 0,.int .u8 0,
 .int .u8 0,.int .u8 0,.int .u8 0,.int .u8 0,.int .u8 0,.int .u8 0,.int .u8 0,.int .u8 0,.int .u8 0,.int .u8 0,.int .u8 0,.int .u8 0,.int .u8 0,.int .u8 0] [(0,16,.t 28)]) [28],oq 30 (.app 23 16 16 (.t 21)
  (.t 29)) [21,29],om 8 (.t 30) [30]]) (.reg [om 31 (.t 6) [6],oq 32 (.bin .add (.t 31) (.c (.int .i64 16))) [31],om 6 (.t 32) [32]]))) (.reg [oq 33 (.bin .add (.t 19) (.c (.int .i64 1)
 )) [19],om 19 (.t 33) [33]]))))))) (.seq (.reg [om 34 (.t 8) [8],om 35 (.t 6) [6],om 2 (.t 34) [34],om 3 (.t 35) [35],om 4 (.c (.int .i64 0)) []]) (.ret))))))⟩
theorem chk61:chkF Tryz.prog 57 sf61=true:=by kernel_rfl

def sf62:SF:=⟨17,[.c 4 (some 16),.t 5],.seq (.reg [oq 2 (.box 23 (.t 0)) [0],oq 3 (.box 9 (.t 1)) [1],oq 4 (.new 23 [.int .u8 0,.int .u8 0,.int .u8 0,.int .u8 0,.int .u8 0,.int .u8 0,
 .int .u8 0,.int .u8 0,.int .u8 0,.int .u8 0,.int .u8 0,.int .u8 0,.int .u8 0,.int .u8 0,.int .u8 0,.int .u8 0]) [],om 5 (.c (.int .i64 0)) [5]]) (.seq (.seq (.reg [oq 7 (.load none (.t 3)
 ) [],oq 8 (.len true (.t 7)) [7],oq 9 (.bin .neq (.t 8) (.c (.int .i64 560))) [8]]) (.cond (.t 9) (.seq (.reg [oq 10 (.build [.int .u8 0,.int .u8 0,.int .u8 0,.int .u8 0,.int .u8 0,
 .int .u8 0,.int .u8 0,.int .u8 0,.int .u8 0,.int .u8 0,.int .u8 0,.int .u8 0,.int .u8 0,.int .u8 0,.int .u8 0,.int .u8 0] []) [],ov (.store 16 (.t 4) (.t 10)) [10],om 5 (.c (.int .i64 1)
 ) []]) (.ret)) (.skip))) (.seq (.reg [oq 11 (.load (some 16) (.t 2)) [2],oq 12 (.call 78 [.t 11]) [11],oq 6 (.new 51 [.val (.slice none 0 0)]) [],ov (.store 1 (.t 6) (.t 12)) [12]])
  (.seq (.reg [oq 13 (.mkfn 80 [] [.t 3,.t 6]) [3,6],oq 14 (.call 79 [.t 13]) [13],oq 15 (.bslice 9 1 1 [.str []] [(0,1,.t 14)]) [14],oq 16 (.call 46 [.c (.int .i64 5),.t 15]) [15],ov (.store 16 (.t 4)
  (.t 16)) [16],om 5 (.c (.int .i64 0)) []]) (.ret))))⟩
theorem chk62:chkF Tryz.prog 58 sf62=true:=by kernel_rfl

end Go.Proofs.YtkfbkooobfepeaaGreatDoor.Sf

/- The functions of the program that are walked through, written out for the engine (printed by wip/tools/Print.lean from the dump), and the kernel's check of each against the program. -/
namespace Go.Proofs.YtkfbkooobfepeaaGreatDoor.Sf
open Go Go.Sx
set_option maxRecDepth 100000
set_option linter.unusedSimpArgs false
set_option linter.unusedVariables false
def sf63:SF:=⟨15,[.c 6 (some 16)],.seq (.reg [oq 3 (.box 23 (.t 0)) [0],oq 6 (.new 23 [.int .u8 0,.int .u8 0,.int .u8 0,.int .u8 0,.int .u8 0,.int .u8 0,.int .u8 0,.int .u8 0,.int .u8 0,
 .int .u8 0,.int .u8 0,.int .u8 0,.int .u8 0,.int .u8 0,.int .u8 0,.int .u8 0]) []]) (.seq (.regD 6 [oh 7 (.slcA 16 1 (.t 3) none none) [] [] [9,10,11,12],oh 8 (.b2s (.t 7)) [] [0] [9,
 10,11,12],oh 9 (.mv (.t 1)) [] [] [7,8,12],oh 10 (.call 44 [.t 9]) [] [2] [7,8,12],oh 11 (.b2s (.t 10)) [] [2,3] [7,8,12],oh 12 (.mv (.t 2)) [1,2,3,7,9,10] [] [7,8,9,10,11],oh 13 (.bslice 9 1 3 [.str [],
 .str [],.str []] [(0,1,.t 8),(1,1,.t 11),(2,1,.t 12)]) [8,11,12] [0,1,2,3,4,5] [],oh 14 (.call 46 [.c (.int .i64 6),.t 13]) [13] [0,1,2,3,4,5,6] [],⟨none,.store 16 (.t 6) (.t 14),none,
 [14],[0,1,2,3,4,5,6,7],[]⟩]) (.ret))⟩
theorem chk63:chkF Tryz.prog 59 sf63=true:=by kernel_rfl

def sf64:SF:=⟨30,[.t 10],.seq (.reg [oq 5 (.box 23 (.t 0)) [0],oq 8 (.box 23 (.t 3)) [3],om 10 (.c (.bool false)) [10]]) (.seq (.reg [om 12 (.t 1) [1],om 13 (.t 2) [2],oq 14 (.load (some 16)
  (.t 8)) [8],om 15 (.t 4) [4],oq 16 (.call 82 [.t 12,.t 13,.t 14,.t 15]) [12,13,14,15],om 11 (.t 16) [16]]) (.seq (.regD 11 [om 17 (.t 11) [],oh 18 (.isNil true (.t 17)) [] [0] [],oh 19 (.mv (.t 18)
 ) [] [0,1] [],⟨(some 20),.mv (.t 11),(some (19,true)),[],[0,1,2],[21,22,23,27]⟩,⟨(some 21),.mv (.t 11),(some (19,true)),[],[0,1,2],[20,27]⟩,⟨(some 22),.len false (.t 21),(some (19,true)
 ),[],[0,1,2,4],[20,27]⟩,⟨(some 23),.bin .sub (.t 22) (.c (.int .i64 1)),(some (19,true)),[],[0,1,2,4,5],[20,27]⟩,⟨(some 24),.idxS (.t 20) (.t 23) 1,(some (19,true)),[],[0,1,2,3,4,5,
 6],[27]⟩,⟨(some 25),.load none (.t 24),(some (19,true)),[],[0,1,2,3,4,5,6,7],[27]⟩,⟨(some 26),.call 83 [.t 25],(some (19,true)),[],[0,1,2,3,4,5,6,7,8],[27]⟩,⟨(some 27),.load (some 16)
  (.t 5),(some (19,true)),[5,11,17,18,20,21,22,23,24,25],[0,1,2],[20,21,22,23,24,25,26]⟩,⟨(some 28),.eqv false [.i .u8,.i .u8,.i .u8,.i .u8,.i .u8,.i .u8,.i .u8,.i .u8,.i .u8,.i .u8,
 .i .u8,.i .u8,.i .u8,.i .u8,.i .u8,.i .u8] (.t 26) (.t 27),(some (19,true)),[26,27],[0,1,2,3,4,5,6,7,8,9,10],[]⟩,oh 29 (.pick (.t 19) (.t 28) (.c (.bool false))) [19,28] [0,1,2,3,4,
 5,6,7,8,9,10,11] [],oh 10 (.mv (.t 29)) [29] [0,1,2,3,4,5,6,7,8,9,10,11,12] []]) (.ret)))⟩
theorem chk64:chkF Tryz.prog 60 sf64=true:=by kernel_rfl

def sf65:SF:=⟨46,[.t 2,.t 3,.t 4],.seq (.reg [om 2 (.c (.val (.slice none 0 0))) [2],om 3 (.c (.int .i64 0)) [3],om 4 (.c (.int .i64 0)) [4]]) (.seq (.reg [om 13 (.t 0) [],oq 14 (.call 85 [.t 13,
 .c (.int .i64 16)]) [13],om 12 (.t 14) [14],oq 15 (.ext (.t 12) 0) [],oq 16 (.ext (.t 12) 1) [],oq 17 (.ext (.t 12) 2) [12],om 5 (.t 15) [15],om 6 (.t 16) [16],om 7 (.t 17) [17]]) (.seq (.seq (.reg [om 18 (.t 7)
  [],oq 19 (.bin .neq (.t 18) (.c (.int .i64 0))) [18]]) (.cond (.t 19) (.seq (.reg [om 20 (.t 7) [7],om 2 (.c (.val (.slice none 0 0))) [],om 3 (.c (.int .i64 0)) [],om 4 (.t 20) [20]])
  (.ret)) (.skip))) (.seq (.reg [om 8 (.c (.val (.slice none 0 0))) []]) (.seq (.seq (.reg [om 9 (.c (.int .i64 0)) []]) (.block 0 (.loop (.seq (.seq (.reg [om 21 (.t 9) [],om 22 (.t 5)
  [],oq 23 (.bin .lss (.t 21) (.t 22)) [21,22]]) (.cond (.t 23) (.skip) (.exit 0))) (.seq (.block 1 (.seq (.reg [oq 10 (.new 23 [.int .u8 0,.int .u8 0,.int .u8 0,.int .u8 0,.int .u8 0,
 .int .u8 0,.int .u8 0,.int .u8 0,.int .u8 0,.int .u8 0,.int .u8 0,.int .u8 0,.int .u8 0,.int .u8 0,.int .u8 0,.int .u8 0]) []]) (.seq (.seq (.reg [om 11 (.c (.int .i64 0)) []]) (.block 2 (.loop (.seq (.seq (.reg [om 26 (.t 11)
  [],oq 27 (.bin .lss (.t 26) (.c (.int .i64 16))) [26]]) (.cond (.t 27) (.skip) (.exit 2))) (.seq (.block 3 (.reg [om 30 (.t 11) [],om 31 (.t 0) [],om 32 (.t 6) [],om 33 (.t 11) [],
 oq 34 (.bin .add (.t 32) (.t 33)) [32,33],oq 35 (.idxS (.t 31) (.t 34) 1) [31,34],oq 36 (.load none (.t 35)) [35],oq 37 (.idxA (.t 10) (.t 30) 16 1) [30],ov (.store 1 (.t 37) (.t 36)
 ) [36,37]])) (.reg [om 28 (.t 11) [11],oq 29 (.bin .add (.t 28) (.c (.int .i64 1))) [28],om 11 (.t 29) [29]])))))) (.seq (.reg [om 38 (.t 8) [8],oq 39 (.load (some 16) (.t 10)) [10],
 oq 40 (.bslice 23 16 1 [.int .u8 0,.int .u8 0,.int .u8 0,.int .u8 0,.int .u8 0,.int .u8 0,.int .u8 0,.int .u8 0,.int .u8 0,.int .u8 0,.int .u8 0,.int .u8 0,.int .u8 0,.int .u8 0,.int .u8 0,
 .int .u8 0] [(0,16,.t 39)]) [39],oq 41 (.app 23 16 16 (.t 38) (.t 40)) [38,40],om 8 (.t 41) [41]]) (.reg [om 42 (.t 6) [6],oq 43 (.bin .add (.t 42) (.c (.int .i64 16))) [42],om 6 (.t 43)
  [43]]))))) (.reg [om 24 (.t 9) [9],oq 25 (.bin .add (.t 24) (.c (.int .i64 1))) [24],om 9 (.t 25) [25]])))))) (.seq (.reg [om 44 (.t 8) [8],om 45 (.t 6) [6],om 2 (.t 44) [44],om 3 (.t 45)
  [45],om 4 (.c (.int .i64 0)) []]) (.ret))))))⟩
theorem chk65:chkF Tryz.prog 63 sf65=true:=by kernel_rfl

def sf66:SF:=⟨15,[.c 4 (some 16),.t 5],.seq (.reg [oq 2 (.box 23 (.t 0)) [0],oq 4 (.new 23 [.int .u8 0,.int .u8 0,.int .u8 0,.int .u8 0,.int .u8 0,.int .u8 0,.int .u8 0,.int .u8 0,
 .int .u8 0,.int .u8 0,.int .u8 0,.int .u8 0,.int .u8 0,.int .u8 0,.int .u8 0,.int .u8 0]) [],om 5 (.c (.int .i64 0)) [5]]) (.seq (.seq (.reg [om 6 (.t 1) [],oq 7 (.len true (.t 6)) [6],
 oq 8 (.bin .neq (.t 7) (.c (.int .i64 560))) [7]]) (.cond (.t 8) (.seq (.reg [oq 9 (.build [.int .u8 0,.int .u8 0,.int .u8 0,.int .u8 0,.int .u8 0,.int .u8 0,.int .u8 0,.int .u8 0,.int .u8 0,
 .int .u8 0,.int .u8 0,.int .u8 0,.int .u8 0,.int .u8 0,.int .u8 0,.int .u8 0] []) [],ov (.store 16 (.t 4) (.t 9)) [9],om 5 (.c (.int .i64 1)) []]) (.ret)) (.skip))) (.seq (.reg [oq 10 (.load (some 16)
  (.t 2)) [2],om 11 (.t 1) [1],oq 12 (.callp 86 [.t 10,.t 11]) [10,11],oq 13 (.bslice 9 1 1 [.str []] [(0,1,.t 12)]) [12],oq 14 (.call 32 [.c (.int .i64 5),.t 13]) [13],ov (.store 16 (.t 4)
  (.t 14)) [14],om 5 (.c (.int .i64 0)) []]) (.ret)))⟩
theorem chk66:chkF Tryz.prog 64 sf66=true:=by kernel_rfl

def sf67:SF:=⟨15,[.c 6 (some 16)],.seq (.reg [oq 3 (.box 23 (.t 0)) [0],oq 6 (.new 23 [.int .u8 0,.int .u8 0,.int .u8 0,.int .u8 0,.int .u8 0,.int .u8 0,.int .u8 0,.int .u8 0,.int .u8 0,
 .int .u8 0,.int .u8 0,.int .u8 0,.int .u8 0,.int .u8 0,.int .u8 0,.int .u8 0]) []]) (.seq (.reg [oq 7 (.load (some 16) (.t 3)) [3],oq 8 (.callp 49 [.t 7]) [7],om 9 (.t 1) [1],oq 10 (.call 27 [.t 9])
  [9],oq 11 (.b2s (.t 10)) [10],om 12 (.t 2) [2],oq 13 (.bslice 9 1 3 [.str [],.str [],.str []] [(0,1,.t 8),(1,1,.t 11),(2,1,.t 12)]) [8,11,12],oq 14 (.call 32 [.c (.int .i64 6),.t 13])
  [13],ov (.store 16 (.t 6) (.t 14)) [14]]) (.ret))⟩
theorem chk67:chkF Tryz.prog 26 sf67=true:=by kernel_rfl

def sf68:SF:=⟨33,[.t 10],.seq (.reg [oq 5 (.box 23 (.t 0)) [0],oq 8 (.box 23 (.t 3)) [3],om 10 (.c (.bool false)) [10]]) (.seq (.reg [om 14 (.t 1) [1],om 15 (.t 2) [2],oq 16 (.load (some 16)
  (.t 8)) [8],om 17 (.t 4) [4],oq 18 (.call 87 [.t 14,.t 15,.t 16,.t 17]) [14,15,16,17],om 13 (.t 18) [18],oq 19 (.ext (.t 13) 0) [],oq 20 (.ext (.t 13) 1) [13],om 11 (.t 19) [19],om 12 (.t 20)
  [20]]) (.seq (.regD 10 [om 21 (.t 12) [],oh 22 (.mv (.t 21)) [] [0] [],⟨(some 23),.mv (.t 11),(some (22,true)),[],[0,1],[24,25,26,30]⟩,⟨(some 24),.mv (.t 11),(some (22,true)),[],[0,
 1],[23,30]⟩,⟨(some 25),.len false (.t 24),(some (22,true)),[],[0,1,3],[23,30]⟩,⟨(some 26),.bin .sub (.t 25) (.c (.int .i64 1)),(some (22,true)),[],[0,1,3,4],[23,30]⟩,⟨(some 27),.idxS (.t 23)
  (.t 26) 1,(some (22,true)),[],[0,1,2,3,4,5],[30]⟩,⟨(some 28),.load none (.t 27),(some (22,true)),[],[0,1,2,3,4,5,6],[30]⟩,⟨(some 29),.call 66 [.t 28],(some (22,true)),[],[0,1,2,3,4,
 5,6,7],[30]⟩,⟨(some 30),.load (some 16) (.t 5),(some (22,true)),[5,11,12,21,23,24,25,26,27,28],[0,1],[23,24,25,26,27,28,29]⟩,⟨(some 31),.eqv false [.i .u8,.i .u8,.i .u8,.i .u8,.i .u8,
 .i .u8,.i .u8,.i .u8,.i .u8,.i .u8,.i .u8,.i .u8,.i .u8,.i .u8,.i .u8,.i .u8] (.t 29) (.t 30),(some (22,true)),[29,30],[0,1,2,3,4,5,6,7,8,9],[]⟩,oh 32 (.pick (.t 22) (.t 31) (.c (.bool false)
 )) [22,31] [0,1,2,3,4,5,6,7,8,9,10] [],oh 10 (.mv (.t 32)) [32] [0,1,2,3,4,5,6,7,8,9,10,11] []]) (.ret)))⟩
theorem chk68:chkF Tryz.prog 65 sf68=true:=by kernel_rfl

def sf69:SF:=⟨31,[.t 4,.t 5,.t 6],.seq (.reg [om 4 (.c (.int .i64 0)) [4],om 5 (.c (.int .i64 0)) [5],om 6 (.c (.int .i64 0)) [6]]) (.seq (.reg [om 8 (.t 0) [],oq 9 (.call 55 [.t 8])
  [8],om 7 (.t 9) [9],oq 10 (.ext (.t 7) 0) [],oq 11 (.ext (.t 7) 1) [],oq 12 (.ext (.t 7) 2) [7],om 4 (.t 10) [10],om 5 (.t 11) [11],om 6 (.t 12) [12]]) (.seq (.block 0 (.seq (.reg [om 14 (.t 6)
  [],oq 15 (.bin .neq (.t 14) (.c (.int .i64 0))) [14],om 13 (.t 15) [15]]) (.cond (.t 13) (.skip) (.seq (.reg [om 17 (.t 4) [],oq 18 (.bin .lss (.t 17) (.c (.int .i64 0))) [17],om 16 (.t 18)
  [18]]) (.cond (.t 16) (.reg [om 6 (.c (.int .i64 6)) []]) (.seq (.reg [om 20 (.t 4) [],om 21 (.t 0) [0],oq 22 (.len false (.t 21)) [21],om 23 (.t 5) [],oq 24 (.bin .sub (.t 22) (.t 23)
 ) [22,23],om 25 (.t 1) [1],oq 26 (.bin .quo (.t 24) (.t 25)) [24,25],oq 27 (.bin .gtr (.t 20) (.t 26)) [20,26],om 19 (.t 27) [27]]) (.cond (.t 19) (.reg [om 6 (.c (.int .i64 5)) []])
  (.skip)))))))) (.seq (.reg [om 28 (.t 4) [4],om 29 (.t 5) [5],om 30 (.t 6) [6],om 4 (.t 28) [28],om 5 (.t 29) [29],om 6 (.t 30) [30]]) (.ret))))⟩
theorem chk69:chkF Tryz.prog 68 sf69=true:=by kernel_rfl

def sf70:SF:=⟨6,[.t 4],.seq (.reg [oq 2 (.box 55 (.t 0)) [0],oq 3 (.box 3 (.t 1)) [1],om 4 (.c (.val .nilFunc)) [4]]) (.seq (.reg [oq 5 (.mkfn 89 [] [.t 2,.t 3]) [2,3],om 4 (.t 5)
  [5]]) (.ret))⟩
theorem chk70:chkF Tryz.prog 69 sf70=true:=by kernel_rfl

def sf71:SF:=⟨37,[.t 4,.t 5,.t 6],.seq (.reg [om 4 (.c (.int .i64 0)) [4],om 5 (.c (.int .i64 0)) [5],om 6 (.c (.int .i64 0)) [6]]) (.seq (.reg [om 11 (.t 0) [],oq 12 (.call 61 [.t 11])
  [11],om 10 (.t 12) [12],oq 13 (.ext (.t 10) 0) [],oq 14 (.ext (.t 10) 1) [],oq 15 (.ext (.t 10) 2) [10],om 7 (.t 13) [13],om 8 (.t 14) [14],om 9 (.t 15) [15]]) (.seq (.seq (.reg [om 16 (.t 9)
  [],oq 17 (.bin .neq (.t 16) (.c (.int .i64 0))) [16]]) (.cond (.t 17) (.seq (.reg [om 18 (.t 9) [9],om 4 (.c (.int .i64 0)) [],om 5 (.c (.int .i64 0)) [],om 6 (.t 18) [18]]) (.ret)
 ) (.skip))) (.seq (.seq (.reg [om 19 (.t 7) [],oq 20 (.bin .lss (.t 19) (.c (.int .i64 0))) [19]]) (.cond (.t 20) (.seq (.reg [om 4 (.c (.int .i64 0)) [],om 5 (.c (.int .i64 0)) [],
 om 6 (.c (.int .i64 6)) []]) (.ret)) (.skip))) (.seq (.seq (.reg [om 21 (.t 7) [],om 22 (.t 0) [],oq 23 (.len false (.t 22)) [22],oq 24 (.bin .gtr (.t 21) (.t 23)) [21,23],om 25 (.t 24)
  [24],og 26 (.mv (.t 7)) 25 false [],og 27 (.mv (.t 1)) 25 false [1],og 28 (.bin .mul (.t 26) (.t 27)) 25 false [26,27],og 29 (.mv (.t 0)) 25 false [0],og 30 (.len false (.t 29)) 25 false [29],
 og 31 (.mv (.t 8)) 25 false [],og 32 (.bin .sub (.t 30) (.t 31)) 25 false [30,31],og 33 (.bin .gtr (.t 28) (.t 32)) 25 false [28,32],oq 34 (.pick (.t 25) (.c (.bool true)) (.t 33)) [25,
 33]]) (.cond (.t 34) (.seq (.reg [om 4 (.c (.int .i64 0)) [],om 5 (.c (.int .i64 0)) [],om 6 (.c (.int .i64 5)) []]) (.ret)) (.skip))) (.seq (.reg [om 35 (.t 7) [7],om 36 (.t 8) [8],
 om 4 (.t 35) [35],om 5 (.t 36) [36],om 6 (.c (.int .i64 0)) []]) (.ret))))))⟩
theorem chk71:chkF Tryz.prog 85 sf71=true:=by kernel_rfl

def sf72:SF:=⟨26,[.t 4],.seq (.reg [om 4 (.c (.bool false)) [4]]) (.seq (.seq (.reg [om 6 (.t 0) [],oq 7 (.len false (.t 6)) [6],om 8 (.t 1) [],oq 9 (.len false (.t 8)) [8],oq 10 (.bin .neq (.t 7)
  (.t 9)) [7,9]]) (.cond (.t 10) (.seq (.reg [om 4 (.c (.bool false)) []]) (.ret)) (.skip))) (.seq (.seq (.reg [om 5 (.c (.int .i64 0)) []]) (.block 0 (.loop (.seq (.seq (.reg [om 11 (.t 5)
  [],om 12 (.t 0) [],oq 13 (.len false (.t 12)) [12],oq 14 (.bin .lss (.t 11) (.t 13)) [11,13]]) (.cond (.t 14) (.skip) (.exit 0))) (.seq (.block 1 (.seq (.regP 8 [oh 17 (.mv (.t 0))
  [] [] [18,21,22,23,24],oh 18 (.mv (.t 5)) [] [] [17,21,22,23,24],oh 19 (.idxS (.t 17) (.t 18) 1) [] [0,1] [21,22,23,24],oh 20 (.load none (.t 19)) [] [0,1,2] [21,22,23,24],oh 21 (.mv (.t 1)
 ) [] [] [17,18,19,20,22],oh 22 (.mv (.t 5)) [] [] [17,18,19,20,21],oh 23 (.idxS (.t 21) (.t 22) 1) [] [4,5] [17,18,19,20],oh 24 (.load none (.t 23)) [17,18,19,21,22,23] [4,5,6] [17,
 18,19,20],oh 25 (.bin .neq (.t 20) (.t 24)) [20,24] [0,1,2,3,4,5,6,7] []]) (.cond (.t 25) (.seq (.reg [om 4 (.c (.bool false)) []]) (.ret)) (.skip)))) (.reg [om 15 (.t 5) [5],oq 16 (.bin .add (.t 15)
  (.c (.int .i64 1))) [15],om 5 (.t 16) [16]])))))) (.seq (.reg [om 4 (.c (.bool true)) []]) (.ret))))⟩
theorem chk72:chkF Tryz.prog 84 sf72=true:=by kernel_rfl

def sf73:SF:=⟨116,[.c 4 (some 8)],.seq (.reg [oq 2 (.box 115 (.t 0)) [0],oq 4 (.new 115 [.int .u32 0,.int .u32 0,.int .u32 0,.int .u32 0,.int .u32 0,.int .u32 0,.int .u32 0,.int .u32 0])
  []]) (.seq (.reg [om 13 (.t 1) [1],oq 14 (.call 105 [.t 13]) [13],oq 5 (.new 154 [.int .u32 0,.int .u32 0,.int .u32 0,.int .u32 0,.int .u32 0,.int .u32 0,.int .u32 0,.int .u32 0,.int .u32 0,
 .int .u32 0,.int .u32 0,.int .u32 0,.int .u32 0,.int .u32 0,.int .u32 0,.int .u32 0,.int .u32 0,.int .u32 0,.int .u32 0,.int .u32 0,.int .u32 0,.int .u32 0,.int .u32 0,.int .u32 0,.int .u32 0,
 .int .u32 0,.int .u32 0,.int .u32 0,.int .u32 0,.int .u32 0,.int .u32 0,.int .u32 0,.int .u32 0,.int .u32 0,.int .u32 0,.int .u32 0,.int .u32 0,.int .u32 0,.int .u32 0,.int .u32 0,.int .u32 0,
 .int .u32 0,.int .u32 0,.int .u32 0,.int .u32 0,.int .u32 0,.int .u32 0,.int .u32 0,.int .u32 0,.int .u32 0,.int .u32 0,.int .u32 0,.int .u32 0,.int .u32 0,.int .u32 0,.int .u32 0,.int .u32 0,
 .int .u32 0,.int .u32 0,.int .u32 0,.int .u32 0,.int .u32 0,.int .u32 0,.int .u32 0]) [],ov (.store 64 (.t 5) (.t 14)) [14]]) (.seq (.regW 9 [oh 15 (.slcA 8 1 (.t 2) none (some (.c (.int .i64 4)
 ))) [] [] [6,7,18,19,20],oh 16 (.arrAt 4 (.t 15)) [] [0] [6,7,18,19,20],oh 17 (.load (some 4) (.t 16)) [] [0,1] [6,7,18,19,20],oh 18 (.slcA 8 1 (.t 2) (some (.c (.int .i64 4))) none)
  [] [] [6,7,15,16,17],oh 19 (.arrAt 4 (.t 18)) [] [3] [6,7,15,16,17],oh 20 (.load (some 4) (.t 19)) [] [3,4] [6,7,15,16,17],oh 6 (.new 157 [.int .u32 0,.int .u32 0,.int .u32 0,.int .u32 0])
  [] [] [7,15,16,17,18,19,20],oh 7 (.new 157 [.int .u32 0,.int .u32 0,.int .u32 0,.int .u32 0]) [] [] [6,15,16,17,18,19,20],⟨none,.store 4 (.t 6) (.t 17),none,[15,16,17,18,19],[0,1,2,
 6,7],[18,19,20]⟩,⟨none,.store 4 (.t 7) (.t 20),none,[20],[0,1,2,3,4,5,6,7,8],[]⟩]) (.seq (.seq (.reg [oq 21 (.load (some 64) (.g 1)) [],om 22 (.c (.int .i64 0)) []]) (.block 0 (.loop (.seq (.reg [oq 23 (.bin .lss (.t 22)
  (.c (.int .i64 64))) []]) (.seq (.cond (.t 23) (.skip) (.exit 0)) (.seq (.block 1 (.seq (.reg [om 24 (.t 22) [],oq 25 (.idxV (.t 21) (.t 22) 64 1 false) [],om 8 (.t 24) [24],om 9 (.t 25)
  [25]]) (.seq (.regP 24 [oh 26 (.idxA (.t 7) (.c (.int .i64 3)) 4 1) [] [] [28,29,30,32,33,34,35,36,37,38,39,40,41,42,43,45,47,48,49],oh 27 (.load none (.t 26)) [] [0] [28,29,30,32,
 33,34,35,36,37,38,39,40,41,42,43,45,47,48,49],oh 28 (.idxA (.t 7) (.c (.int .i64 0)) 4 1) [] [] [26,27,32,33,34,35,36,37,38,39,40,41,42,43,45,47,48,49],oh 29 (.load none (.t 28)) [] [2] [26,
 27,32,33,34,35,36,37,38,39,40,41,42,43,45,47,48,49],oh 30 (.callp 106 [.t 29,.c (.int .i64 6),.c (.int .i64 11),.c (.int .i64 25)]) [] [2,3] [26,27,32,33,34,35,36,37,38,39,40,41,42,
 43,45,47,48,49],oh 31 (.bin .add (.t 27) (.t 30)) [] [0,1,2,3,4] [32,33,34,35,36,37,38,39,40,41,42,43,45,47,48,49],oh 32 (.idxA (.t 7) (.c (.int .i64 0)) 4 1) [] [] [26,27,28,29,30,
 31,34,35,37,38,39,40,41,42,45,47,48,49],oh 33 (.load none (.t 32)) [] [6] [26,27,28,29,30,31,34,35,37,38,39,40,41,42,45,47,48,49],oh 34 (.idxA (.t 7) (.c (.int .i64 1)) 4 1) [] [] [26,
 27,28,29,30,31,32,33,37,38,39,40,41,42,45,47,48,49],oh 35 (.load none (.t 34)) [] [8] [26,27,28,29,30,31,32,33,37,38,39,40,41,42,45,47,48,49],oh 36 (.bin .and (.t 33) (.t 35)) [] [6,
 7,8,9] [26,27,28,29,30,31,37,38,39,40,41,42,45,47,48,49],oh 37 (.idxA (.t 7) (.c (.int .i64 0)) 4 1) [] [] [26,27,28,29,30,31,32,33,34,35,36,40,41,45,47,48,49],oh 38 (.load none (.t 37)
 ) [] [11] [26,27,28,29,30,31,32,33,34,35,36,40,41,45,47,48,49],oh 39 (.un .xor (.t 38)) [] [11,12] [26,27,28,29,30,31,32,33,34,35,36,40,41,45,47,48,49],oh 40 (.idxA (.t 7) (.c (.int .i64 2)
 ) 4 1) [] [] [26,27,28,29,30,31,32,33,34,35,36,37,38,39,45,47,48,49],oh 41 (.load none (.t 40)) [] [14] [26,27,28,29,30,31,32,33,34,35,36,37,38,39,45,47,48,49],oh 42 (.bin .and (.t 39)
  (.t 41)) [] [11,12,13,14,15] [26,27,28,29,30,31,32,33,34,35,36,45,47,48,49],oh 43 (.bin .xor (.t 36) (.t 42)) [] [6,7,8,9,10,11,12,13,14,15,16] [26,27,28,29,30,31,45,47,48,49],oh 44 (.bin .add (.t 31)
  (.t 43)) [] [0,1,2,3,4,5,6,7,8,9,10,11,12,13,14,15,16,17] [45,47,48,49],oh 45 (.mv (.t 9)) [] [] [26,27,28,29,30,31,32,33,34,35,36,37,38,39,40,41,42,43,44,47,48,49],oh 46 (.bin .add (.t 44)
  (.t 45)) [] [0,1,2,3,4,5,6,7,8,9,10,11,12,13,14,15,16,17,18,19] [47,48,49],oh 47 (.mv (.t 8)) [] [] [26,27,28,29,30,31,32,33,34,35,36,37,38,39,40,41,42,43,44,45,46],oh 48 (.idxA (.t 5)
  (.t 47) 64 1) [] [21] [26,27,28,29,30,31,32,33,34,35,36,37,38,39,40,41,42,43,44,45,46],oh 49 (.load none (.t 48)) [8,9,26,27,28,29,30,31,32,33,34,35,36,37,38,39,40,41,42,43,44,45,47,
 48] [21,22] [26,27,28,29,30,31,32,33,34,35,36,37,38,39,40,41,42,43,44,45,46],oh 50 (.bin .add (.t 46) (.t 49)) [46,49] [0,1,2,3,4,5,6,7,8,9,10,11,12,13,14,15,16,17,18,19,20,21,22,23] [],
 oh 10 (.mv (.t 50)) [50] [0,1,2,3,4,5,6,7,8,9,10,11,12,13,14,15,16,17,18,19,20,21,22,23,24] []]) (.seq (.regP 20 [oh 51 (.idxA (.t 6) (.c (.int .i64 0)) 4 1) [] [] [54,55,56,57,58,59,
 60,61,62,63,64,65,66,67,68,69,70],oh 52 (.load none (.t 51)) [] [0] [54,55,56,57,58,59,60,61,62,63,64,65,66,67,68,69,70],oh 53 (.callp 106 [.t 52,.c (.int .i64 2),.c (.int .i64 13),
 .c (.int .i64 22)]) [] [0,1] [54,55,56,57,58,59,60,61,62,63,64,65,66,67,68,69,70],oh 54 (.idxA (.t 6) (.c (.int .i64 0)) 4 1) [] [] [51,52,53,56,57,59,60,61,62,63,65,66,67,68,69],oh 55 (.load none (.t 54)
 ) [] [3] [51,52,53,56,57,59,60,61,62,63,65,66,67,68,69],oh 56 (.idxA (.t 6) (.c (.int .i64 1)) 4 1) [] [] [51,52,53,54,55,59,60,61,62,63,65,66,67,68,69],oh 57 (.load none (.t 56)) [] [5] [51,
 52,53,54,55,59,60,61,62,63,65,66,67,68,69],oh 58 (.bin .and (.t 55) (.t 57)) [] [3,4,5,6] [51,52,53,59,60,61,62,63,65,66,67,68,69],oh 59 (.idxA (.t 6) (.c (.int .i64 0)) 4 1) [] [] [51,
 52,53,54,55,56,57,58,61,62,65,66,67,68,69],oh 60 (.load none (.t 59)) [] [8] [51,52,53,54,55,56,57,58,61,62,65,66,67,68,69],oh 61 (.idxA (.t 6) (.c (.int .i64 2)) 4 1) [] [] [51,52,
 53,54,55,56,57,58,59,60,65,66,67,68,69],oh 62 (.load none (.t 61)) [] [10] [51,52,53,54,55,56,57,58,59,60,65,66,67,68,69],oh 63 (.bin .and (.t 60) (.t 62)) [] [8,9,10,11] [51,52,53,
 54,55,56,57,58,65,66,67,68,69],oh 64 (.bin .xor (.t 58) (.t 63)) [] [3,4,5,6,7,8,9,10,11,12] [51,52,53,65,66,67,68,69],oh 65 (.idxA (.t 6) (.c (.int .i64 1)) 4 1) [] [] [51,52,53,54,
 55,56,57,58,59,60,61,62,63,64,67,68],oh 66 (.load none (.t 65)) [] [14] [51,52,53,54,55,56,57,58,59,60,61,62,63,64,67,68],oh 67 (.idxA (.t 6) (.c (.int .i64 2)) 4 1) [] [] [51,52,53,
 54,55,56,57,58,59,60,61,62,63,64,65,66],oh 68 (.load none (.t 67)) [] [16] [51,52,53,54,55,56,57,58,59,60,61,62,63,64,65,66],oh 69 (.bin .and (.t 66) (.t 68)) [] [14,15,16,17] [51,52,
 53,54,55,56,57,58,59,60,61,62,63,64],oh 70 (.bin .xor (.t 64) (.t 69)) [51,52,54,55,56,57,58,59,60,61,62,63,64,65,66,67,68,69] [3,4,5,6,7,8,9,10,11,12,13,14,15,16,17,18] [51,52,53],
 oh 71 (.bin .add (.t 53) (.t 70)) [53,70] [0,1,2,3,4,5,6,7,8,9,10,11,12,13,14,15,16,17,18,19] [],oh 11 (.mv (.t 71)) [71] [0,1,2,3,4,5,6,7,8,9,10,11,12,13,14,15,16,17,18,19,20] []])
  (.seq (.reg [oq 72 (.idxA (.t 6) (.c (.int .i64 3)) 4 1) [],oq 73 (.load none (.t 72)) [72],om 74 (.t 10) [],oq 75 (.bin .add (.t 73) (.t 74)) [73,74],oq 76 (.idxA (.t 7) (.c (.int .i64 0)
 ) 4 1) [],oq 77 (.load none (.t 76)) [76],oq 78 (.idxA (.t 7) (.c (.int .i64 1)) 4 1) [],oq 79 (.load none (.t 78)) [78],oq 80 (.idxA (.t 7) (.c (.int .i64 2)) 4 1) [],oq 81 (.load none (.t 80)
 ) [80],oq 82 (.build [.int .u32 0,.int .u32 0,.int .u32 0,.int .u32 0] [(0,1,.t 75),(1,1,.t 77),(2,1,.t 79),(3,1,.t 81)]) [75,77,79,81],ov (.store 4 (.t 7) (.t 82)) [82]]) (.reg [om 83 (.t 10)
  [10],om 84 (.t 11) [11],oq 85 (.bin .add (.t 83) (.t 84)) [83,84],oq 86 (.idxA (.t 6) (.c (.int .i64 0)) 4 1) [],oq 87 (.load none (.t 86)) [86],oq 88 (.idxA (.t 6) (.c (.int .i64 1)
 ) 4 1) [],oq 89 (.load none (.t 88)) [88],oq 90 (.idxA (.t 6) (.c (.int .i64 2)) 4 1) [],oq 91 (.load none (.t 90)) [90],oq 92 (.build [.int .u32 0,.int .u32 0,.int .u32 0,.int .u32 0] [(0,
 1,.t 85),(1,1,.t 87),(2,1,.t 89),(3,1,.t 91)]) [85,87,89,91],ov (.store 4 (.t 6) (.t 92)) [92]])))))) (.reg [oq 93 (.bin .add (.t 22) (.c (.int .i64 1))) [22],om 22 (.t 93) [93]])))
 )))) (.seq (.seq (.reg [om 94 (.c (.int .i64 0)) []]) (.block 2 (.loop (.seq (.reg [oq 95 (.bin .lss (.t 94) (.c (.int .i64 4))) []]) (.seq (.cond (.t 95) (.skip) (.exit 2)) (.seq (.block 3 (.seq (.reg [om 96 (.t 94)
  [],om 12 (.t 96) [96]]) (.seq (.regP 6 [oh 97 (.mv (.t 12)) [] [] [100,101,102],oh 98 (.idxA (.t 2) (.t 97) 8 1) [] [0] [100,101,102],oh 99 (.load none (.t 98)) [] [0,1] [100,101,102],
 oh 100 (.mv (.t 12)) [] [] [97,98,99],oh 101 (.idxA (.t 6) (.t 100) 4 1) [] [3] [97,98,99],oh 102 (.load none (.t 101)) [98,100,101] [3,4] [97,98,99],oh 103 (.bin .add (.t 99) (.t 102)
 ) [99,102] [0,1,2,3,4,5] [],oh 104 (.idxA (.t 2) (.t 97) 8 1) [97] [0,1,2,3,4,5,6] [],⟨none,.store 1 (.t 104) (.t 103),none,[103,104],[0,1,2,3,4,5,6,7],[]⟩]) (.regP 7 [oh 105 (.mv (.t 12)
 ) [] [] [109,110,111],oh 106 (.bin .add (.t 105) (.c (.int .i64 4))) [] [0] [109,110,111],oh 107 (.idxA (.t 2) (.t 106) 8 1) [] [0,1] [109,110,111],oh 108 (.load none (.t 107)) [] [0,
 1,2] [109,110,111],oh 109 (.mv (.t 12)) [] [] [105,106,107,108],oh 110 (.idxA (.t 7) (.t 109) 4 1) [] [4] [105,106,107,108],oh 111 (.load none (.t 110)) [12,105,107,109,110] [4,5] [105,
 106,107,108],oh 112 (.bin .add (.t 108) (.t 111)) [108,111] [0,1,2,3,4,5,6] [],oh 113 (.idxA (.t 2) (.t 106) 8 1) [106] [0,1,2,3,4,5,6,7] [],⟨none,.store 1 (.t 113) (.t 112),none,[112,
 113],[0,1,2,3,4,5,6,7,8],[]⟩])))) (.reg [oq 114 (.bin .add (.t 94) (.c (.int .i64 1))) [94],om 94 (.t 114) [114]]))))))) (.seq (.reg [oq 115 (.load (some 8) (.t 2)) [2],ov (.store 8 (.t 4)
  (.t 115)) [115]]) (.ret))))))⟩
theorem chk73:chkF Tryz.prog 90 sf73=true:=by kernel_rfl

def sf74:SF:=⟨148,[.c 2 (some 32)],.seq (.reg [oq 2 (.new 121 [.int .u8 0,.int .u8 0,.int .u8 0,.int .u8 0,.int .u8 0,.int .u8 0,.int .u8 0,.int .u8 0,.int .u8 0,.int .u8 0,.int .u8 0,
 .int .u8 0,.int .u8 0,.int .u8 0,.int .u8 0,.int .u8 0,.int .u8 0,.int .u8 0,.int .u8 0,.int .u8 0,.int .u8 0,.int .u8 0,.int .u8 0,.int .u8 0,.int .u8 0,.int .u8 0,.int .u8 0,.int .u8 0,
 .int .u8 0,.int .u8 0,.int .u8 0,.int .u8 0]) []]) (.seq (.reg [oq 14 (.build [.int .u32 0,.int .u32 0,.int .u32 0,.int .u32 0,.int .u32 0,.int .u32 0,.int .u32 0,.int .u32 0] [(0,1,
 .c (.int .u32 1779033703)),(1,1,.c (.int .u32 3144134277)),(2,1,.c (.int .u32 1013904242)),(3,1,.c (.int .u32 2773480762)),(4,1,.c (.int .u32 1359893119)),(5,1,.c (.int .u32 2600822924)
 ),(6,1,.c (.int .u32 528734635)),(7,1,.c (.int .u32 1541459225))]) [],oq 3 (.new 115 [.int .u32 0,.int .u32 0,.int .u32 0,.int .u32 0,.int .u32 0,.int .u32 0,.int .u32 0,.int .u32 0])
  [],ov (.store 8 (.t 3) (.t 14)) [14]]) (.seq (.reg [om 15 (.t 0) [0],oq 16 (.call 102 [.t 15]) [15],om 4 (.t 16) [16]]) (.seq (.seq (.reg [om 5 (.c (.int .i64 0)) []]) (.block 0 (.loop (.seq (.seq (.reg [om 17 (.t 5)
  [],om 18 (.t 4) [],oq 19 (.len false (.t 18)) [18],oq 20 (.bin .lss (.t 17) (.t 19)) [17,19]]) (.cond (.t 20) (.skip) (.exit 0))) (.seq (.block 1 (.seq (.reg [om 23 (.t 4) [],om 24 (.t 5)
  [],om 25 (.t 5) [],oq 26 (.bin .add (.t 25) (.c (.int .i64 64))) [25],oq 27 (.slcS 1 (.t 23) (some (.t 24)) (some (.t 26))) [23,24,26],oq 28 (.call 103 [.t 27]) [27],oq 6 (.new 154 [.int .u32 0,
 .int .u32 0,.int .u32 0,.int .u32 0,.int .u32 0,.int .u32 0,.int .u32 0,.int .u32 0,.int .u32 0,.int .u32 0,.int .u32 0,.int .u32 0,.int .u32 0,.int .u32 0,.int .u32 0,.int .u32 0,.int .u32 0,
 .int .u32 0,.int .u32 0,.int .u32 0,.int .u32 0,.int .u32 0,.int .u32 0,.int .u32 0,.int .u32 0,.int .u32 0,.int .u32 0,.int .u32 0,.int .u32 0,.int .u32 0,.int .u32 0,.int .u32 0,.int .u32 0,
 .int .u32 0,.int .u32 0,.int .u32 0,.int .u32 0,.int .u32 0,.int .u32 0,.int .u32 0,.int .u32 0,.int .u32 0,.int .u32 0,.int .u32 0,.int .u32 0,.int .u32 0,.int .u32 0,.int .u32 0,.int .u32 0,
 .int .u32 0,.int .u32 0,.int .u32 0,.int .u32 0,.int .u32 0,.int .u32 0,.int .u32 0,.int .u32 0,.int .u32 0,.int .u32 0,.int .u32 0,.int .u32 0,.int .u32 0,.int .u32 0,.int .u32 0])
  [],ov (.store 64 (.t 6) (.t 28)) [28]]) (.seq (.reg [oq 29 (.load (some 8) (.t 3)) [],oq 7 (.new 115 [.int .u32 0,.int .u32 0,.int .u32 0,.int .u32 0,.int .u32 0,.int .u32 0,.int .u32 0,
 .int .u32 0]) [],ov (.store 8 (.t 7) (.t 29)) [29]]) (.seq (.seq (.reg [om 8 (.c (.int .i64 0)) []]) (.block 2 (.loop (.seq (.seq (.reg [om 30 (.t 8) [],oq 31 (.bin .lss (.t 30) (.c (.int .i64 64)
 )) [30]]) (.cond (.t 31) (.skip) (.exit 2))) (.seq (.block 3 (.seq (.regP 34 [oh 34 (.idxA (.t 7) (.c (.int .i64 7)) 8 1) [] [] [36,37,38,39,40,41,42,43,44,45,46,48,49,50,51,52,53,54,
 55,56,57,58,59,61,62,63,65,66,67],oh 35 (.load none (.t 34)) [] [0] [36,37,38,39,40,41,42,43,44,45,46,48,49,50,51,52,53,54,55,56,57,58,59,61,62,63,65,66,67],oh 36 (.idxA (.t 7) (.c (.int .i64 4)
 ) 8 1) [] [] [34,35,39,40,43,44,48,49,50,51,52,53,54,55,56,57,58,59,61,62,63,65,66,67],oh 37 (.load none (.t 36)) [] [2] [34,35,39,40,43,44,48,49,50,51,52,53,54,55,56,57,58,59,61,62,
 63,65,66,67],oh 38 (.callp 104 [.t 37,.c (.int .i64 6)]) [] [2,3] [34,35,39,40,43,44,48,49,50,51,52,53,54,55,56,57,58,59,61,62,63,65,66,67],oh 39 (.idxA (.t 7) (.c (.int .i64 4)) 8 1)
  [] [] [34,35,36,37,38,43,44,48,49,50,51,52,53,54,55,56,57,58,59,61,62,63,65,66,67],oh 40 (.load none (.t 39)) [] [5] [34,35,36,37,38,43,44,48,49,50,51,52,53,54,55,56,57,58,59,61,62,
 63,65,66,67],oh 41 (.callp 104 [.t 40,.c (.int .i64 11)]) [] [2,3,4,5,6] [34,35,43,44,48,49,50,51,52,53,54,55,56,57,58,59,61,62,63,65,66,67],oh 42 (.bin .xor (.t 38) (.t 41)) [] [2,
 3,4,5,6,7] [34,35,43,44,45,48,49,50,51,52,53,54,55,56,57,58,59,61,62,63,65,66,67],oh 43 (.idxA (.t 7) (.c (.int .i64 4)) 8 1) [] [] [34,35,36,37,38,39,40,41,42,48,49,50,51,52,53,54,
 55,56,57,58,59,61,62,63,65,66,67],oh 44 (.load none (.t 43)) [] [9] [34,35,36,37,38,39,40,41,42,48,49,50,51,52,53,54,55,56,57,58,59,61,62,63,65,66,67],oh 45 (.callp 104 [.t 44,.c (.int .i64 25)
 ]) [] [2,3,4,5,6,7,9,10] [34,35,42,48,49,50,51,52,53,54,55,56,57,58,59,61,62,63,65,66,67],oh 46 (.bin .xor (.t 42) (.t 45)) [] [2,3,4,5,6,7,8,9,10,11] [34,35,48,49,50,51,52,53,54,55,
 56,57,58,59,61,62,63,65,66,67],oh 47 (.bin .add (.t 35) (.t 46)) [] [0,1,2,3,4,5,6,7,8,9,10,11,12] [48,49,50,51,52,53,54,55,56,57,58,59,61,62,63,65,66,67],oh 48 (.idxA (.t 7) (.c (.int .i64 4)
 ) 8 1) [] [] [34,35,36,37,38,39,40,41,42,43,44,45,46,47,50,51,53,54,55,56,57,58,61,62,63,65,66,67],oh 49 (.load none (.t 48)) [] [14] [34,35,36,37,38,39,40,41,42,43,44,45,46,47,50,51,
 53,54,55,56,57,58,61,62,63,65,66,67],oh 50 (.idxA (.t 7) (.c (.int .i64 5)) 8 1) [] [] [34,35,36,37,38,39,40,41,42,43,44,45,46,47,48,49,53,54,55,56,57,58,61,62,63,65,66,67],oh 51 (.load none (.t 50)
 ) [] [16] [34,35,36,37,38,39,40,41,42,43,44,45,46,47,48,49,53,54,55,56,57,58,61,62,63,65,66,67],oh 52 (.bin .and (.t 49) (.t 51)) [] [14,15,16,17] [34,35,36,37,38,39,40,41,42,43,44,
 45,46,47,53,54,55,56,57,58,61,62,63,65,66,67],oh 53 (.idxA (.t 7) (.c (.int .i64 4)) 8 1) [] [] [34,35,36,37,38,39,40,41,42,43,44,45,46,47,48,49,50,51,52,56,57,61,62,63,65,66,67],oh 54 (.load none (.t 53)
 ) [] [19] [34,35,36,37,38,39,40,41,42,43,44,45,46,47,48,49,50,51,52,56,57,61,62,63,65,66,67],oh 55 (.bin .xor (.t 54) (.c (.int .u32 4294967295))) [] [19,20] [34,35,36,37,38,39,40,41,
 42,43,44,45,46,47,48,49,50,51,52,56,57,61,62,63,65,66,67],oh 56 (.idxA (.t 7) (.c (.int .i64 6)) 8 1) [] [] [34,35,36,37,38,39,40,41,42,43,44,45,46,47,48,49,50,51,52,53,54,55,61,62,
 63,65,66,67],oh 57 (.load none (.t 56)) [] [22] [34,35,36,37,38,39,40,41,42,43,44,45,46,47,48,49,50,51,52,53,54,55,61,62,63,65,66,67],oh 58 (.bin .and (.t 55) (.t 57)) [] [19,20,21,
 22,23] [34,35,36,37,38,39,40,41,42,43,44,45,46,47,48,49,50,51,52,61,62,63,65,66,67],oh 59 (.bin .xor (.t 52) (.t 58)) [] [14,15,16,17,18,19,20,21,22,23,24] [34,35,36,37,38,39,40,41,
 42,43,44,45,46,47,61,62,63,65,66,67],oh 60 (.bin .add (.t 47) (.t 59)) [] [0,1,2,3,4,5,6,7,8,9,10,11,12,13,14,15,16,17,18,19,20,21,22,23,24,25] [61,62,63,65,66,67],oh 61 (.mv (.t 8)
 ) [] [] [34,35,36,37,38,39,40,41,42,43,44,45,46,47,48,49,50,51,52,53,54,55,56,57,58,59,60,65,66,67],oh 62 (.idxA (.g 0) (.t 61) 64 1) [] [27] [34,35,36,37,38,39,40,41,42,43,44,45,46,
 47,48,49,50,51,52,53,54,55,56,57,58,59,60,65,66,67],oh 63 (.load none (.t 62)) [] [27,28] [34,35,36,37,38,39,40,41,42,43,44,45,46,47,48,49,50,51,52,53,54,55,56,57,58,59,60,65,66,67],
 oh 64 (.bin .add (.t 60) (.t 63)) [] [0,1,2,3,4,5,6,7,8,9,10,11,12,13,14,15,16,17,18,19,20,21,22,23,24,25,26,27,28,29] [65,66,67],oh 65 (.mv (.t 8)) [] [] [34,35,36,37,38,39,40,41,42,
 43,44,45,46,47,48,49,50,51,52,53,54,55,56,57,58,59,60,61,62,63,64],oh 66 (.idxA (.t 6) (.t 65) 64 1) [] [31] [34,35,36,37,38,39,40,41,42,43,44,45,46,47,48,49,50,51,52,53,54,55,56,57,
 58,59,60,61,62,63,64],oh 67 (.load none (.t 66)) [34,35,36,37,38,39,40,41,42,43,44,45,46,47,48,49,50,51,52,53,54,55,56,57,58,59,60,61,62,63,65,66] [31,32] [34,35,36,37,38,39,40,41,42,
 43,44,45,46,47,48,49,50,51,52,53,54,55,56,57,58,59,60,61,62,63,64],oh 68 (.bin .add (.t 64) (.t 67)) [64,67] [0,1,2,3,4,5,6,7,8,9,10,11,12,13,14,15,16,17,18,19,20,21,22,23,24,25,26,
 27,28,29,30,31,32,33] [],oh 9 (.mv (.t 68)) [68] [0,1,2,3,4,5,6,7,8,9,10,11,12,13,14,15,16,17,18,19,20,21,22,23,24,25,26,27,28,29,30,31,32,33,34] []]) (.seq (.regP 28 [oh 69 (.idxA (.t 7)
  (.c (.int .i64 0)) 8 1) [] [] [72,73,76,77,80,81,82,83,84,85,86,87,88,89,90,91,92,93,94,95,96],oh 70 (.load none (.t 69)) [] [0] [72,73,76,77,80,81,82,83,84,85,86,87,88,89,90,91,92,
 93,94,95,96],oh 71 (.callp 104 [.t 70,.c (.int .i64 2)]) [] [0,1] [72,73,76,77,80,81,82,83,84,85,86,87,88,89,90,91,92,93,94,95,96],oh 72 (.idxA (.t 7) (.c (.int .i64 0)) 8 1) [] [] [69,
 70,71,76,77,80,81,82,83,84,85,86,87,88,89,90,91,92,93,94,95,96],oh 73 (.load none (.t 72)) [] [3] [69,70,71,76,77,80,81,82,83,84,85,86,87,88,89,90,91,92,93,94,95,96],oh 74 (.callp 104 [.t 73,
 .c (.int .i64 13)]) [] [0,1,2,3,4] [76,77,80,81,82,83,84,85,86,87,88,89,90,91,92,93,94,95,96],oh 75 (.bin .xor (.t 71) (.t 74)) [] [0,1,2,3,4,5] [76,77,78,80,81,82,83,84,85,86,87,88,
 89,90,91,92,93,94,95,96],oh 76 (.idxA (.t 7) (.c (.int .i64 0)) 8 1) [] [] [69,70,71,72,73,74,75,80,81,82,83,84,85,86,87,88,89,90,91,92,93,94,95,96],oh 77 (.load none (.t 76)) [] [7] [69,
 70,71,72,73,74,75,80,81,82,83,84,85,86,87,88,89,90,91,92,93,94,95,96],oh 78 (.callp 104 [.t 77,.c (.int .i64 22)]) [] [0,1,2,3,4,5,7,8] [75,80,81,82,83,84,85,86,87,88,89,90,91,92,93,
 94,95,96],oh 79 (.bin .xor (.t 75) (.t 78)) [] [0,1,2,3,4,5,6,7,8,9] [80,81,82,83,84,85,86,87,88,89,90,91,92,93,94,95,96],oh 80 (.idxA (.t 7) (.c (.int .i64 0)) 8 1) [] [] [69,70,71,
 72,73,74,75,76,77,78,79,82,83,85,86,87,88,89,91,92,93,94,95],oh 81 (.load none (.t 80)) [] [11] [69,70,71,72,73,74,75,76,77,78,79,82,83,85,86,87,88,89,91,92,93,94,95],oh 82 (.idxA (.t 7)
  (.c (.int .i64 1)) 8 1) [] [] [69,70,71,72,73,74,75,76,77,78,79,80,81,85,86,87,88,89,91,92,93,94,95],oh 83 (.load none (.t 82)) [] [13] [69,70,71,72,73,74,75,76,77,78,79,80,81,85,86,
 87,88,89,91,92,93,94,95],oh 84 (.bin .and (.t 81) (.t 83)) [] [11,12,13,14] [69,70,71,72,73,74,75,76,77,78,79,85,86,87,88,89,91,92,93,94,95],oh 85 (.idxA (.t 7) (.c (.int .i64 0)) 8 1)
  [] [] [69,70,71,72,73,74,75,76,77,78,79,80,81,82,83,84,87,88,91,92,93,94,95],oh 86 (.load none (.t 85)) [] [16] [69,70,71,72,73,74,75,76,77,78,79,80,81,82,83,84,87,88,91,92,93,94,95],
 oh 87 (.idxA (.t 7) (.c (.int .i64 2)) 8 1) [] [] [69,70,71,72,73,74,75,76,77,78,79,80,81,82,83,84,85,86,91,92,93,94,95],oh 88 (.load none (.t 87)) [] [18] [69,70,71,72,73,74,75,76,
 77,78,79,80,81,82,83,84,85,86,91,92,93,94,95],oh 89 (.bin .and (.t 86) (.t 88)) [] [16,17,18,19] [69,70,71,72,73,74,75,76,77,78,79,80,81,82,83,84,91,92,93,94,95],oh 90 (.bin .xor (.t 84)
  (.t 89)) [] [11,12,13,14,15,16,17,18,19,20] [69,70,71,72,73,74,75,76,77,78,79,91,92,93,94,95],oh 91 (.idxA (.t 7) (.c (.int .i64 1)) 8 1) [] [] [69,70,71,72,73,74,75,76,77,78,79,80,
 81,82,83,84,85,86,87,88,89,90,93,94],oh 92 (.load none (.t 91)) [] [22] [69,70,71,72,73,74,75,76,77,78,79,80,81,82,83,84,85,86,87,88,89,90,93,94],oh 93 (.idxA (.t 7) (.c (.int .i64 2)
 ) 8 1) [] [] [69,70,71,72,73,74,75,76,77,78,79,80,81,82,83,84,85,86,87,88,89,90,91,92],oh 94 (.load none (.t 93)) [] [24] [69,70,71,72,73,74,75,76,77,78,79,80,81,82,83,84,85,86,87,88,
 89,90,91,92],oh 95 (.bin .and (.t 92) (.t 94)) [] [22,23,24,25] [69,70,71,72,73,74,75,76,77,78,79,80,81,82,83,84,85,86,87,88,89,90],oh 96 (.bin .xor (.t 90) (.t 95)) [69,70,71,72,73,
 74,75,76,77,78,80,81,82,83,84,85,86,87,88,89,90,91,92,93,94,95] [11,12,13,14,15,16,17,18,19,20,21,22,23,24,25,26] [69,70,71,72,73,74,75,76,77,78,79],oh 97 (.bin .add (.t 79) (.t 96)
 ) [79,96] [0,1,2,3,4,5,6,7,8,9,10,11,12,13,14,15,16,17,18,19,20,21,22,23,24,25,26,27] [],oh 10 (.mv (.t 97)) [97] [0,1,2,3,4,5,6,7,8,9,10,11,12,13,14,15,16,17,18,19,20,21,22,23,24,25,
 26,27,28] []]) (.reg [om 98 (.t 9) [],om 99 (.t 10) [10],oq 100 (.bin .add (.t 98) (.t 99)) [98,99],oq 101 (.idxA (.t 7) (.c (.int .i64 0)) 8 1) [],oq 102 (.load none (.t 101)) [101],
 oq 103 (.idxA (.t 7) (.c (.int .i64 1)) 8 1) [],oq 104 (.load none (.t 103)) [103],oq 105 (.idxA (.t 7) (.c (.int .i64 2)) 8 1) [],oq 106 (.load none (.t 105)) [105],oq 107 (.idxA (.t 7)
  (.c (.int .i64 3)) 8 1) [],oq 108 (.load none (.t 107)) [107],om 109 (.t 9) [9],oq 110 (.bin .add (.t 108) (.t 109)) [108,109],oq 111 (.idxA (.t 7) (.c (.int .i64 4)) 8 1) [],oq 112 (.load none (.t 111)
 ) [111],oq 113 (.idxA (.t 7) (.c (.int .i64 5)) 8 1) [],oq 114 (.load none (.t 113)) [113],oq 115 (.idxA (.t 7) (.c (.int .i64 6)) 8 1) [],oq 116 (.load none (.t 115)) [115],oq 117 (.build [.int .u32 0,
 .int .u32 0,.int .u32 0,.int .u32 0,.int .u32 0,.int .u32 0,.int .u32 0,.int .u32 0] [(0,1,.t 100),(1,1,.t 102),(2,1,.t 104),(3,1,.t 106),(4,1,.t 110),(5,1,.t 112),(6,1,.t 114),(7,1,
 .t 116)]) [100,102,104,106,110,112,114,116],ov (.store 8 (.t 7) (.t 117)) [117]])))) (.reg [om 32 (.t 8) [8],oq 33 (.bin .add (.t 32) (.c (.int .i64 1))) [32],om 8 (.t 33) [33]]))))
 )) (.seq (.reg [om 11 (.c (.int .i64 0)) []]) (.block 4 (.loop (.seq (.seq (.reg [om 118 (.t 11) [],oq 119 (.bin .lss (.t 118) (.c (.int .i64 8))) [118]]) (.cond (.t 119) (.skip) (.exit 4)
 )) (.seq (.block 5 (.regP 8 [oh 122 (.mv (.t 11)) [] [] [123,124,125,126,127,128,129],oh 123 (.mv (.t 11)) [] [] [122,126,127,128],oh 124 (.idxA (.t 3) (.t 123) 8 1) [] [1] [122,126,
 127,128],oh 125 (.load none (.t 124)) [] [1,2] [122,126,127,128],oh 126 (.mv (.t 11)) [] [] [122,123,124,125],oh 127 (.idxA (.t 7) (.t 126) 8 1) [] [4] [122,123,124,125],oh 128 (.load none (.t 127)
 ) [] [4,5] [122,123,124,125],oh 129 (.bin .add (.t 125) (.t 128)) [123,124,125,126,127,128] [1,2,3,4,5,6] [122],oh 130 (.idxA (.t 3) (.t 122) 8 1) [122] [0,1,2,3,4,5,6,7] [],⟨none,.store 1 (.t 130)
  (.t 129),none,[129,130],[0,1,2,3,4,5,6,7,8],[]⟩])) (.reg [om 120 (.t 11) [11],oq 121 (.bin .add (.t 120) (.c (.int .i64 1))) [120],om 11 (.t 121) [121]])))))))))) (.reg [om 21 (.t 5)
  [5],oq 22 (.bin .add (.t 21) (.c (.int .i64 64))) [21],om 5 (.t 22) [22]])))))) (.seq (.reg [oq 12 (.new 121 [.int .u8 0,.int .u8 0,.int .u8 0,.int .u8 0,.int .u8 0,.int .u8 0,.int .u8 0,
 .int .u8 0,.int .u8 0,.int .u8 0,.int .u8 0,.int .u8 0,.int .u8 0,.int .u8 0,.int .u8 0,.int .u8 0,.int .u8 0,.int .u8 0,.int .u8 0,.int .u8 0,.int .u8 0,.int .u8 0,.int .u8 0,.int .u8 0,
 .int .u8 0,.int .u8 0,.int .u8 0,.int .u8 0,.int .u8 0,.int .u8 0,.int .u8 0,.int .u8 0]) []]) (.seq (.seq (.reg [om 13 (.c (.int .i64 0)) []]) (.block 6 (.loop (.seq (.seq (.reg [om 131 (.t 13)
  [],oq 132 (.bin .lss (.t 131) (.c (.int .i64 32))) [131]]) (.cond (.t 132) (.skip) (.exit 6))) (.seq (.block 7 (.reg [om 135 (.t 13) [],om 136 (.t 13) [],oq 137 (.bin .quo (.t 136)
  (.c (.int .i64 4))) [136],oq 138 (.idxA (.t 3) (.t 137) 8 1) [137],oq 139 (.load none (.t 138)) [138],om 140 (.t 13) [],oq 141 (.bin .rem (.t 140) (.c (.int .i64 4))) [140],oq 142 (.bin .mul (.c (.int .i64 8)
 ) (.t 141)) [141],oq 143 (.bin .sub (.c (.int .i64 24)) (.t 142)) [142],oq 144 (.bin .shr (.t 139) (.t 143)) [139,143],oq 145 (.conv .u8 (.t 144)) [144],oq 146 (.idxA (.t 12) (.t 135)
  32 1) [135],ov (.store 1 (.t 146) (.t 145)) [145,146]])) (.reg [om 133 (.t 13) [13],oq 134 (.bin .add (.t 133) (.c (.int .i64 1))) [133],om 13 (.t 134) [134]])))))) (.seq (.reg [oq 147 (.load (some 32)
  (.t 12)) [12],ov (.store 32 (.t 2) (.t 147)) [147]]) (.ret)))))))⟩
theorem chk74:chkF Tryz.prog 88 sf74=true:=by kernel_rfl

def sf75:SF:=⟨14,[],.seq (.seq (.reg [oq 6 (.load none (.t 2)) [],oq 7 (.bin .eql (.t 6) (.c (.int .i64 0))) [6]]) (.cond (.t 7) (.reg [om 8 (.t 1) [1],ov (.store 1 (.t 2) (.t 8)
 ) [8]]) (.skip))) (.seq (.reg [oq 9 (.load none (.t 2)) [2],oq 10 (.bin .eql (.t 9) (.c (.int .i64 0))) [9]]) (.cond (.t 10) (.reg [oq 11 (.load none (.t 3)) [],om 12 (.t 0) [0],oq 13 (.slcS 1 (.t 11)
  (some (.t 12)) none) [11,12],ov (.store 1 (.t 3) (.t 13)) [3,13]]) (.skip)))⟩
theorem chk75:chkF Tryz.prog 76 sf75=true:=by kernel_rfl

def sf76:SF:=⟨6,[.t 2,.t 3],.seq (.reg [om 2 (.c (.val (.slice none 0 0))) [2],om 3 (.c (.int .i64 0)) [3]]) (.seq (.regP 3 [oh 4 (.load none (.t 0)) [] [] [5],oh 5 (.load none (.t 1)
 ) [] [] [2,4],oh 2 (.mv (.t 4)) [0,1,4] [0] [5],oh 3 (.mv (.t 5)) [5] [0,1,2] []]) (.ret))⟩
theorem chk76:chkF Tryz.prog 77 sf76=true:=by kernel_rfl

def sf77:SF:=⟨41,[.t 2],.seq (.reg [oq 1 (.box 23 (.t 0)) [0],om 2 (.c (.val (.slice none 0 0))) [2]]) (.seq (.reg [oq 3 (.new 137 [.int .i64 0,.int .i64 0,.int .i64 0,.int .i64 0,
 .int .i64 0,.int .i64 0,.int .i64 0,.int .i64 0,.int .i64 0,.int .i64 0,.int .i64 0,.int .i64 0,.int .i64 0,.int .i64 0,.int .i64 0,.int .i64 0,.int .i64 0,.int .i64 0,.int .i64 0,.int .i64 0,
 .int .i64 0,.int .i64 0,.int .i64 0,.int .i64 0,.int .i64 0,.int .i64 0,.int .i64 0,.int .i64 0,.int .i64 0,.int .i64 0,.int .i64 0,.int .i64 0,.int .i64 0,.int .i64 0,.int .i64 0])
  []]) (.seq (.reg [om 4 (.c (.int .i64 0)) []]) (.seq (.seq (.reg [om 7 (.c (.int .i64 0)) []]) (.block 0 (.loop (.seq (.reg [oq 8 (.bin .lss (.t 7) (.c (.int .i64 32))) []]) (.seq (.cond (.t 8)
  (.skip) (.exit 0)) (.seq (.block 1 (.seq (.reg [om 9 (.t 7) [],om 5 (.t 9) [9]]) (.seq (.reg [om 10 (.t 5) [],om 11 (.t 5) [],oq 12 (.bin .quo (.t 11) (.c (.int .i64 2))) [11],oq 13 (.idxA (.t 1)
  (.t 12) 16 1) [12],oq 14 (.load none (.t 13)) [13],om 15 (.t 5) [],oq 16 (.bin .rem (.t 15) (.c (.int .i64 2))) [15],oq 17 (.bin .mul (.c (.int .i64 4)) (.t 16)) [16],oq 18 (.bin .sub (.c (.int .i64 4)
 ) (.t 17)) [17],oq 19 (.bin .shr (.t 14) (.t 18)) [14,18],oq 20 (.conv .i64 (.t 19)) [19],oq 21 (.bin .rem (.t 20) (.c (.int .i64 16))) [20],oq 22 (.idxA (.t 3) (.t 10) 35 1) [10],ov (.store 1 (.t 22)
  (.t 21)) [21,22]]) (.reg [om 23 (.t 4) [4],om 24 (.t 5) [5],oq 25 (.idxA (.t 3) (.t 24) 35 1) [24],oq 26 (.load none (.t 25)) [25],oq 27 (.bin .sub (.c (.int .i64 15)) (.t 26)) [26],
 oq 28 (.bin .add (.t 23) (.t 27)) [23,27],om 4 (.t 28) [28]])))) (.reg [oq 29 (.bin .add (.t 7) (.c (.int .i64 1))) [7],om 7 (.t 29) [29]]))))))) (.seq (.seq (.reg [om 6 (.c (.int .i64 34)
 ) []]) (.block 2 (.loop (.seq (.seq (.reg [om 30 (.t 6) [],oq 31 (.bin .geq (.t 30) (.c (.int .i64 32))) [30]]) (.cond (.t 31) (.skip) (.exit 2))) (.seq (.block 3 (.seq (.reg [om 34 (.t 6)
  [],om 35 (.t 4) [],oq 36 (.bin .rem (.t 35) (.c (.int .i64 16))) [35],oq 37 (.idxA (.t 3) (.t 34) 35 1) [34],ov (.store 1 (.t 37) (.t 36)) [36,37]]) (.reg [om 38 (.t 4) [4],oq 39 (.bin .quo (.t 38)
  (.c (.int .i64 16))) [38],om 4 (.t 39) [39]]))) (.reg [om 32 (.t 6) [6],oq 33 (.bin .sub (.t 32) (.c (.int .i64 1))) [32],om 6 (.t 33) [33]])))))) (.seq (.reg [oq 40 (.slcA 35 1 (.t 3)
  none none) [3],om 2 (.t 40) [40]]) (.ret))))))⟩
theorem chk77:chkF Tryz.prog 78 sf77=true:=by kernel_rfl

def sf78:SF:=⟨16,[.t 2],.seq (.reg [om 2 (.c (.str [])) [2]]) (.seq (.reg [oq 3 (.new 140 [.val (.pointer none),.val (.slice none 0 0)]) []]) (.seq (.seq (.reg [om 6 (.c (.int .i64 0)
 ) []]) (.block 0 (.loop (.seq (.reg [oq 7 (.bin .lss (.t 6) (.c (.int .i64 35))) []]) (.seq (.cond (.t 7) (.skip) (.exit 0)) (.seq (.block 1 (.seq (.reg [om 8 (.t 6) [],om 4 (.t 8) [8]])
  (.seq (.reg [om 9 (.t 0) [],om 10 (.t 4) [4],oq 11 (.callv (.t 9) [.t 10]) [9,10],oq 5 (.new 23 [.int .u8 0,.int .u8 0,.int .u8 0,.int .u8 0,.int .u8 0,.int .u8 0,.int .u8 0,.int .u8 0,
 .int .u8 0,.int .u8 0,.int .u8 0,.int .u8 0,.int .u8 0,.int .u8 0,.int .u8 0,.int .u8 0]) [],ov (.store 16 (.t 5) (.t 11)) [11]]) (.reg [oq 12 (.slcA 16 1 (.t 5) none none) [5],oq 13 (.call 93 [.t 3,
 .t 12]) [12,13]])))) (.reg [oq 14 (.bin .add (.t 6) (.c (.int .i64 1))) [6],om 6 (.t 14) [14]]))))))) (.seq (.reg [oq 15 (.call 94 [.t 3]) [3],om 2 (.t 15) [15]]) (.ret))))⟩
theorem chk78:chkF Tryz.prog 79 sf78=true:=by kernel_rfl

def sf79:SF:=⟨23,[.c 4 (some 16)],.seq (.reg [oq 4 (.new 23 [.int .u8 0,.int .u8 0,.int .u8 0,.int .u8 0,.int .u8 0,.int .u8 0,.int .u8 0,.int .u8 0,.int .u8 0,.int .u8 0,.int .u8 0,
 .int .u8 0,.int .u8 0,.int .u8 0,.int .u8 0,.int .u8 0]) []]) (.seq (.reg [oq 6 (.load none (.t 1)) [1],om 7 (.t 0) [],oq 8 (.bin .mul (.t 7) (.c (.int .i64 16))) [7],om 9 (.t 0) [],
 oq 10 (.bin .add (.t 9) (.c (.int .i64 1))) [9],oq 11 (.bin .mul (.t 10) (.c (.int .i64 16))) [10],oq 12 (.slcT (.t 6) (some (.t 8)) (some (.t 11))) [6,8,11],oq 13 (.s2b 5 (.t 12)) [12],
 oq 14 (.arrAt 16 (.t 13)) [13],oq 15 (.load (some 16) (.t 14)) [14],oq 5 (.new 23 [.int .u8 0,.int .u8 0,.int .u8 0,.int .u8 0,.int .u8 0,.int .u8 0,.int .u8 0,.int .u8 0,.int .u8 0,
 .int .u8 0,.int .u8 0,.int .u8 0,.int .u8 0,.int .u8 0,.int .u8 0,.int .u8 0]) [],ov (.store 16 (.t 5) (.t 15)) [15]]) (.seq (.regP 6 [oh 16 (.mv (.t 0)) [] [] [17,18,19,20,21],oh 17 (.load none (.t 2)
 ) [] [] [16,18,21],oh 18 (.mv (.t 0)) [] [] [16,17,21],oh 19 (.idxS (.t 17) (.t 18) 1) [] [1,2] [16,21],oh 20 (.load none (.t 19)) [] [1,2,3] [16,21],oh 21 (.load (some 16) (.t 5)) [0,
 2,5,17,18,19] [] [16,17,18,19,20],oh 22 (.callp 81 [.t 16,.t 20,.c (.int .i64 15),.t 21]) [16,20,21] [0,1,2,3,4,5] [],⟨none,.store 16 (.t 4) (.t 22),none,[22],[0,1,2,3,4,5,6],[]⟩]) (.ret)
 ))⟩
theorem chk79:chkF Tryz.prog 80 sf79=true:=by kernel_rfl

def sf80:SF:=⟨43,[.c 8 (some 16)],.seq (.reg [oq 7 (.box 23 (.t 3)) [3],oq 8 (.new 23 [.int .u8 0,.int .u8 0,.int .u8 0,.int .u8 0,.int .u8 0,.int .u8 0,.int .u8 0,.int .u8 0,.int .u8 0,
 .int .u8 0,.int .u8 0,.int .u8 0,.int .u8 0,.int .u8 0,.int .u8 0,.int .u8 0]) []]) (.seq (.seq (.reg [om 11 (.t 0) [],oq 12 (.callp 95 [.t 11,.c (.int .i64 34)]) [11],oq 13 (.un .not (.t 12)
 ) [12],om 14 (.t 13) [13],og 15 (.mv (.t 1)) 14 false [],og 16 (.callp 95 [.t 15,.c (.int .i64 15)]) 14 false [15],og 17 (.un .not (.t 16)) 14 false [16],oq 18 (.pick (.t 14) (.c (.bool true)
 ) (.t 17)) [14,17],om 19 (.t 18) [18],og 20 (.mv (.t 2)) 19 false [],og 21 (.callp 95 [.t 20,.c (.int .i64 15)]) 19 false [20],og 22 (.un .not (.t 21)) 19 false [21],oq 23 (.pick (.t 19)
  (.c (.bool true)) (.t 22)) [19,22]]) (.cond (.t 23) (.seq (.reg [oq 24 (.build [.int .u8 0,.int .u8 0,.int .u8 0,.int .u8 0,.int .u8 0,.int .u8 0,.int .u8 0,.int .u8 0,.int .u8 0,.int .u8 0,
 .int .u8 0,.int .u8 0,.int .u8 0,.int .u8 0,.int .u8 0,.int .u8 0] []) [],ov (.store 16 (.t 8) (.t 24)) [24]]) (.ret)) (.skip))) (.seq (.reg [om 25 (.t 0) [0],oq 26 (.call 44 [.t 25])
  [25],oq 27 (.b2s (.t 26)) [26],om 9 (.t 27) [27]]) (.seq (.seq (.reg [om 28 (.t 1) [1],om 10 (.t 28) [28]]) (.block 0 (.loop (.seq (.seq (.reg [om 29 (.t 10) [],om 30 (.t 2) [],oq 31 (.bin .lss (.t 29)
  (.t 30)) [29,30]]) (.cond (.t 31) (.skip) (.exit 0))) (.seq (.block 1 (.regD 6 [oh 34 (.mv (.t 9)) [] [] [35,36,37,38,39],oh 35 (.mv (.t 10)) [] [] [34,38,39],oh 36 (.call 44 [.t 35])
  [] [1] [34,38,39],oh 37 (.b2s (.t 36)) [] [1,2] [34,38,39],oh 38 (.slcA 16 1 (.t 7) none none) [] [] [34,35,36,37],oh 39 (.b2s (.t 38)) [35,36,38] [4] [34,35,36,37],oh 40 (.bslice 9 1 3 [.str [],
 .str [],.str []] [(0,1,.t 34),(1,1,.t 37),(2,1,.t 39)]) [34,37,39] [0,1,2,3,4,5] [],oh 41 (.call 46 [.c (.int .i64 4),.t 40]) [40] [0,1,2,3,4,5,6] [],⟨none,.store 16 (.t 7) (.t 41),
 none,[41],[0,1,2,3,4,5,6,7],[]⟩])) (.reg [om 32 (.t 10) [10],oq 33 (.bin .add (.t 32) (.c (.int .i64 1))) [32],om 10 (.t 33) [33]])))))) (.seq (.reg [oq 42 (.load (some 16) (.t 7)) [7],
 ov (.store 16 (.t 8) (.t 42)) [42]]) (.ret)))))⟩
theorem chk80:chkF Tryz.prog 81 sf80=true:=by kernel_rfl

def sf81:SF:=⟨65,[.t 8],.seq (.reg [oq 6 (.box 23 (.t 2)) [2],om 8 (.c (.val (.slice none 0 0))) [8]]) (.seq (.seq (.reg [om 14 (.t 1) [],oq 15 (.bin .lss (.t 14) (.c (.int .i64 0)
 )) [14],om 16 (.t 15) [15],og 17 (.mv (.t 1)) 16 false [],og 18 (.mv (.t 0)) 16 false [],og 19 (.bin .geq (.t 17) (.t 18)) 16 false [17,18],oq 20 (.pick (.t 16) (.c (.bool true)) (.t 19)
 ) [16,19]]) (.cond (.t 20) (.seq (.reg [om 8 (.c (.val (.slice none 0 0))) []]) (.ret)) (.skip))) (.seq (.reg [oq 9 (.new 147 [.val (.slice none 0 0)]) []]) (.seq (.reg [om 21 (.t 0)
  [0],om 22 (.t 1) [1],oq 23 (.mkfn 97 [] [.t 9]) [],oq 24 (.call 96 [.t 21,.t 22,.t 23]) [21,22,23,24]]) (.seq (.seq (.reg [oq 25 (.load none (.t 9)) [],oq 26 (.len false (.t 25)) [25],
 om 27 (.t 3) [],oq 28 (.len false (.t 27)) [27],oq 29 (.bin .neq (.t 26) (.t 28)) [26,28]]) (.cond (.t 29) (.seq (.reg [om 8 (.c (.val (.slice none 0 0))) []]) (.ret)) (.skip))) (.seq (.reg [oq 30 (.load none (.t 9)
 ) [],oq 31 (.call 98 [.t 30]) [30,31]]) (.seq (.reg [oq 32 (.load (some 16) (.t 6)) [6],oq 33 (.call 99 [.t 32]) [32],oq 34 (.bslice 55 1 1 [.val (.slice none 0 0)] [(0,1,.t 33)]) [33],
 om 10 (.t 34) [34]]) (.seq (.seq (.reg [om 35 (.t 3) [3],oq 36 (.len false (.t 35)) [],om 37 (.c (.int .i64 0)) []]) (.block 0 (.loop (.seq (.reg [oq 38 (.bin .lss (.t 37) (.t 36)) []])
  (.seq (.cond (.t 38) (.skip) (.exit 0)) (.seq (.block 1 (.seq (.reg [om 39 (.t 37) [],oq 40 (.idxS (.t 35) (.t 37) 16) [],oq 41 (.load (some 16) (.t 40)) [40],oq 12 (.new 23 [.int .u8 0,
 .int .u8 0,.int .u8 0,.int .u8 0,.int .u8 0,.int .u8 0,.int .u8 0,.int .u8 0,.int .u8 0,.int .u8 0,.int .u8 0,.int .u8 0,.int .u8 0,.int .u8 0,.int .u8 0,.int .u8 0]) [],om 11 (.t 39)
  [39],ov (.store 16 (.t 12) (.t 41)) [41]]) (.seq (.reg [om 42 (.t 10) [],om 43 (.t 11) [],oq 44 (.idxS (.t 42) (.t 43) 1) [42,43],oq 45 (.load none (.t 44)) [44],oq 46 (.call 83 [.t 45])
  [45],oq 13 (.new 23 [.int .u8 0,.int .u8 0,.int .u8 0,.int .u8 0,.int .u8 0,.int .u8 0,.int .u8 0,.int .u8 0,.int .u8 0,.int .u8 0,.int .u8 0,.int .u8 0,.int .u8 0,.int .u8 0,.int .u8 0,
 .int .u8 0]) [],ov (.store 16 (.t 13) (.t 46)) [46]]) (.seq (.reg [oq 47 (.load none (.t 9)) [],om 48 (.t 11) [11],oq 49 (.idxS (.t 47) (.t 48) 1) [47,48],oq 50 (.load none (.t 49))
  [49]]) (.cond (.t 50) (.reg [om 51 (.t 10) [10],oq 52 (.load (some 16) (.t 12)) [12],oq 53 (.load (some 16) (.t 13)) [13],oq 54 (.call 100 [.t 52,.t 53]) [52,53],oq 55 (.bslice 55 1 1 [.val (.slice none 0 0)
 ] [(0,1,.t 54)]) [54],oq 56 (.app 55 1 24 (.t 51) (.t 55)) [51,55],om 10 (.t 56) [56]]) (.reg [om 57 (.t 10) [10],oq 58 (.load (some 16) (.t 13)) [13],oq 59 (.load (some 16) (.t 12)
 ) [12],oq 60 (.call 100 [.t 58,.t 59]) [58,59],oq 61 (.bslice 55 1 1 [.val (.slice none 0 0)] [(0,1,.t 60)]) [60],oq 62 (.app 55 1 24 (.t 57) (.t 61)) [57,61],om 10 (.t 62) [62]])))
 ))) (.reg [oq 63 (.bin .add (.t 37) (.c (.int .i64 1))) [37],om 37 (.t 63) [63]]))))))) (.seq (.reg [om 64 (.t 10) [10],om 8 (.t 64) [64]]) (.ret)))))))))⟩
theorem chk81:chkF Tryz.prog 82 sf81=true:=by kernel_rfl

def sf82:SF:=⟨9,[.c 2 (some 16)],.seq (.reg [oq 2 (.new 23 [.int .u8 0,.int .u8 0,.int .u8 0,.int .u8 0,.int .u8 0,.int .u8 0,.int .u8 0,.int .u8 0,.int .u8 0,.int .u8 0,.int .u8 0,
 .int .u8 0,.int .u8 0,.int .u8 0,.int .u8 0,.int .u8 0]) []]) (.seq (.reg [om 4 (.t 0) [0],oq 5 (.call 101 [.t 4]) [4],oq 3 (.new 121 [.int .u8 0,.int .u8 0,.int .u8 0,.int .u8 0,.int .u8 0,
 .int .u8 0,.int .u8 0,.int .u8 0,.int .u8 0,.int .u8 0,.int .u8 0,.int .u8 0,.int .u8 0,.int .u8 0,.int .u8 0,.int .u8 0,.int .u8 0,.int .u8 0,.int .u8 0,.int .u8 0,.int .u8 0,.int .u8 0,
 .int .u8 0,.int .u8 0,.int .u8 0,.int .u8 0,.int .u8 0,.int .u8 0,.int .u8 0,.int .u8 0,.int .u8 0,.int .u8 0]) [],ov (.store 32 (.t 3) (.t 5)) [5]]) (.seq (.reg [oq 6 (.slcA 32 1 (.t 3)
  none (some (.c (.int .i64 16)))) [3],oq 7 (.arrAt 16 (.t 6)) [6],oq 8 (.load (some 16) (.t 7)) [7],ov (.store 16 (.t 2) (.t 8)) [8]]) (.ret)))⟩
theorem chk82:chkF Tryz.prog 83 sf82=true:=by kernel_rfl

def sf83:SF:=⟨29,[.t 4],.seq (.reg [oq 2 (.box 23 (.t 0)) [0],om 4 (.c (.str [])) [4]]) (.seq (.reg [oq 8 (.load (some 16) (.t 2)) [2],oq 9 (.call 48 [.t 8]) [8],om 5 (.t 9) [9]])
  (.seq (.reg [om 6 (.c (.str [])) []]) (.seq (.seq (.reg [om 7 (.c (.int .i64 0)) []]) (.block 0 (.loop (.seq (.seq (.reg [om 10 (.t 7) [],oq 11 (.bin .lss (.t 10) (.c (.int .i64 35)
 )) [10]]) (.cond (.t 11) (.skip) (.exit 0))) (.seq (.block 1 (.regD 13 [oh 14 (.mv (.t 6)) [] [] [15,16,17,18,19,20,21,22,23,24,25,26],oh 15 (.mv (.t 7)) [] [] [14,16,17,18,19,20,21,
 22,23,24],oh 16 (.mv (.t 5)) [] [] [14,15,17,20,21,22,23,24],oh 17 (.mv (.t 7)) [] [] [14,15,16,20,21,22,23,24],oh 18 (.idxS (.t 16) (.t 17) 1) [] [2,3] [14,15,20,21,22,23,24],oh 19 (.load none (.t 18)
 ) [] [2,3,4] [14,15,20,21,22,23,24],oh 20 (.mv (.t 1)) [] [] [14,15,16,17,18,19,21,22],oh 21 (.mv (.t 7)) [] [] [14,15,16,17,18,19,20],oh 22 (.bin .mul (.c (.int .i64 16)) (.t 21)) [] [7] [14,
 15,16,17,18,19,20],oh 23 (.slcT (.t 20) (some (.t 22)) none) [] [6,7,8] [14,15,16,17,18,19],oh 24 (.callp 73 [.t 23]) [] [6,7,8,9] [14,15,16,17,18,19],oh 25 (.callp 50 [.t 15,.t 19,
 .c (.int .i64 15),.t 24]) [] [1,2,3,4,5,6,7,8,9,10] [14],oh 26 (.callp 49 [.t 25]) [6,15,16,17,18,19,20,21,22,23,24,25] [1,2,3,4,5,6,7,8,9,10,11] [14],oh 27 (.bin .add (.t 14) (.t 26)
 ) [14,26] [0,1,2,3,4,5,6,7,8,9,10,11,12] [],oh 6 (.mv (.t 27)) [27] [0,1,2,3,4,5,6,7,8,9,10,11,12,13] []])) (.reg [om 12 (.t 7) [7],oq 13 (.bin .add (.t 12) (.c (.int .i64 1))) [12],
 om 7 (.t 13) [13]])))))) (.seq (.reg [om 28 (.t 6) [6],om 4 (.t 28) [28]]) (.ret)))))⟩
theorem chk83:chkF Tryz.prog 86 sf83=true:=by kernel_rfl

def sf84:SF:=⟨107,[.t 8,.t 9],.seq (.reg [oq 6 (.box 23 (.t 2)) [2],om 8 (.c (.val (.slice none 0 0))) [8],om 9 (.c (.bool false)) [9]]) (.seq (.seq (.reg [om 17 (.t 1) [],oq 18 (.bin .lss (.t 17)
  (.c (.int .i64 0))) [17],om 19 (.t 18) [18],og 20 (.mv (.t 1)) 19 false [],og 21 (.mv (.t 0)) 19 false [],og 22 (.bin .geq (.t 20) (.t 21)) 19 false [20,21],oq 23 (.pick (.t 19) (.c (.bool true)
 ) (.t 22)) [19,22]]) (.cond (.t 23) (.seq (.reg [om 8 (.c (.val (.slice none 0 0))) [],om 9 (.c (.bool false)) []]) (.ret)) (.skip))) (.seq (.seq (.reg [om 24 (.t 0) [],oq 25 (.bin .eql (.t 24)
  (.c (.int .i64 1))) [24]]) (.cond (.t 25) (.seq (.reg [oq 26 (.load (some 16) (.t 6)) [6],oq 27 (.callp 49 [.t 26]) [26],oq 28 (.bslice 9 1 1 [.str []] [(0,1,.t 27)]) [27],oq 29 (.call 67 [.c (.int .i64 1)
 ,.t 28]) [28],oq 30 (.bslice 55 1 1 [.val (.slice none 0 0)] [(0,1,.t 29)]) [29],om 31 (.t 3) [3],oq 32 (.len false (.t 31)) [31],oq 33 (.bin .eql (.t 32) (.c (.int .i64 0))) [32],om 8 (.t 30)
  [30],om 9 (.t 33) [33]]) (.ret)) (.skip))) (.seq (.seq (.reg [om 34 (.t 3) [],oq 35 (.len false (.t 34)) [34],oq 36 (.bin .eql (.t 35) (.c (.int .i64 0))) [35]]) (.cond (.t 36) (.seq (.reg [om 8 (.c (.val (.slice none 0 0)
 )) [],om 9 (.c (.bool false)) []]) (.ret)) (.skip))) (.seq (.reg [om 37 (.t 3) [],om 38 (.t 3) [],oq 39 (.len false (.t 38)) [38],oq 40 (.bin .sub (.t 39) (.c (.int .i64 1))) [39],oq 41 (.idxS (.t 37)
  (.t 40) 16) [37,40],oq 42 (.load (some 16) (.t 41)) [41],oq 10 (.new 23 [.int .u8 0,.int .u8 0,.int .u8 0,.int .u8 0,.int .u8 0,.int .u8 0,.int .u8 0,.int .u8 0,.int .u8 0,.int .u8 0,
 .int .u8 0,.int .u8 0,.int .u8 0,.int .u8 0,.int .u8 0,.int .u8 0]) [],ov (.store 16 (.t 10) (.t 42)) [42]]) (.seq (.reg [om 43 (.t 3) [],om 44 (.t 3) [3],oq 45 (.len false (.t 44))
  [44],oq 46 (.bin .sub (.t 45) (.c (.int .i64 1))) [45],oq 47 (.slcS 16 (.t 43) none (some (.t 46))) [43,46],om 11 (.t 47) [47]]) (.seq (.reg [om 48 (.t 0) [],oq 49 (.callp 34 [.t 48])
  [48],om 12 (.t 49) [49]]) (.seq (.seq (.reg [om 50 (.t 1) [],om 51 (.t 12) [],oq 52 (.bin .lss (.t 50) (.t 51)) [50,51]]) (.cond (.t 52) (.seq (.reg [om 54 (.t 12) [12],om 55 (.t 1)
  [1],oq 56 (.load (some 16) (.t 6)) [6],om 57 (.t 11) [11],oq 58 (.call 87 [.t 54,.t 55,.t 56,.t 57]) [54,55,56,57],om 53 (.t 58) [58],oq 59 (.ext (.t 53) 0) [],oq 60 (.ext (.t 53) 1)
  [53],om 13 (.t 59) [59],om 14 (.t 60) [60]]) (.seq (.seq (.reg [om 61 (.t 14) [14],oq 62 (.un .not (.t 61)) [61]]) (.cond (.t 62) (.seq (.reg [om 8 (.c (.val (.slice none 0 0))) [],
 om 9 (.c (.bool false)) []]) (.ret)) (.skip))) (.seq (.regD 14 [oh 63 (.mv (.t 13)) [] [] [64,65,66,67,68,69,70,71,72,73,74,75,76],oh 64 (.mv (.t 13)) [] [] [63,65,66,67,72],oh 65 (.mv (.t 13)
 ) [] [] [63,64,72],oh 66 (.len false (.t 65)) [] [2] [63,64,72],oh 67 (.bin .sub (.t 66) (.c (.int .i64 1))) [] [2,3] [63,64,72],oh 68 (.idxS (.t 64) (.t 67) 1) [] [1,2,3,4] [63,72],
 oh 69 (.load none (.t 68)) [] [1,2,3,4,5] [63,72],oh 70 (.call 66 [.t 69]) [] [1,2,3,4,5,6] [63,72],oh 71 (.callp 49 [.t 70]) [] [1,2,3,4,5,6,7] [63,72],oh 72 (.load (some 16) (.t 10)
 ) [] [] [63,64,65,66,67,68,69,70,71],oh 73 (.callp 49 [.t 72]) [] [1,2,3,4,5,6,7,8,9] [63],oh 74 (.bslice 9 1 2 [.str [],.str []] [(0,1,.t 71),(1,1,.t 73)]) [] [1,2,3,4,5,6,7,8,9,10] [63],
 oh 75 (.call 67 [.c (.int .i64 2),.t 74]) [] [1,2,3,4,5,6,7,8,9,10,11] [63],oh 76 (.bslice 55 1 1 [.val (.slice none 0 0)] [(0,1,.t 75)]) [10,13,64,65,66,67,68,69,70,71,72,73,74,75] [1,
 2,3,4,5,6,7,8,9,10,11,12] [63],oh 77 (.app 55 1 24 (.t 63) (.t 76)) [63,76] [0,1,2,3,4,5,6,7,8,9,10,11,12,13] [],oh 8 (.mv (.t 77)) [77] [0,1,2,3,4,5,6,7,8,9,10,11,12,13,14] [],oh 9 (.mv (.c (.bool true)
 )) [] [0,1,2,3,4,5,6,7,8,9,10,11,12,13,14,15] []]) (.ret)))) (.skip))) (.seq (.reg [om 79 (.t 0) [0],om 80 (.t 12) [],oq 81 (.bin .sub (.t 79) (.t 80)) [79,80],om 82 (.t 1) [1],om 83 (.t 12)
  [12],oq 84 (.bin .sub (.t 82) (.t 83)) [82,83],oq 85 (.load (some 16) (.t 6)) [6],om 86 (.t 11) [11],oq 87 (.call 87 [.t 81,.t 84,.t 85,.t 86]) [81,84,85,86],om 78 (.t 87) [87],oq 88 (.ext (.t 78)
  0) [],oq 89 (.ext (.t 78) 1) [78],om 15 (.t 88) [88],om 16 (.t 89) [89]]) (.seq (.seq (.reg [om 90 (.t 16) [16],oq 91 (.un .not (.t 90)) [90]]) (.cond (.t 91) (.seq (.reg [om 8 (.c (.val (.slice none 0 0)
 )) [],om 9 (.c (.bool false)) []]) (.ret)) (.skip))) (.seq (.regD 14 [oh 92 (.mv (.t 15)) [] [] [93,94,95,96,97,98,99,100,101,102,103,104,105],oh 93 (.load (some 16) (.t 10)) [] [] [92,
 95,96,97,98,99,100],oh 94 (.callp 49 [.t 93]) [] [1] [92,95,96,97,98,99,100],oh 95 (.mv (.t 15)) [] [] [92,93,94,96,97,98],oh 96 (.mv (.t 15)) [] [] [92,93,94,95],oh 97 (.len false (.t 96)
 ) [] [4] [92,93,94,95],oh 98 (.bin .sub (.t 97) (.c (.int .i64 1))) [] [4,5] [92,93,94,95],oh 99 (.idxS (.t 95) (.t 98) 1) [] [3,4,5,6] [92,93,94],oh 100 (.load none (.t 99)) [] [3,
 4,5,6,7] [92,93,94],oh 101 (.call 66 [.t 100]) [] [1,2,3,4,5,6,7,8] [92],oh 102 (.callp 49 [.t 101]) [] [1,2,3,4,5,6,7,8,9] [92],oh 103 (.bslice 9 1 2 [.str [],.str []] [(0,1,.t 94)
 ,(1,1,.t 102)]) [] [1,2,3,4,5,6,7,8,9,10] [92],oh 104 (.call 67 [.c (.int .i64 2),.t 103]) [] [1,2,3,4,5,6,7,8,9,10,11] [92],oh 105 (.bslice 55 1 1 [.val (.slice none 0 0)] [(0,1,.t 104)
 ]) [10,15,93,94,95,96,97,98,99,100,101,102,103,104] [1,2,3,4,5,6,7,8,9,10,11,12] [92],oh 106 (.app 55 1 24 (.t 92) (.t 105)) [92,105] [0,1,2,3,4,5,6,7,8,9,10,11,12,13] [],oh 8 (.mv (.t 106)
 ) [106] [0,1,2,3,4,5,6,7,8,9,10,11,12,13,14] [],oh 9 (.mv (.c (.bool true))) [] [0,1,2,3,4,5,6,7,8,9,10,11,12,13,14,15] []]) (.ret)))))))))))⟩
theorem chk84:chkF Tryz.prog 87 sf84=true:=by kernel_rfl

def sf85:SF:=⟨22,[.t 2,.t 3,.t 4],.seq (.reg [om 2 (.c (.int .i64 0)) [2],om 3 (.c (.int .i64 0)) [3],om 4 (.c (.int .i64 0)) [4]]) (.seq (.reg [oq 9 (.load none (.t 0)) [0],oq 10 (.load none (.t 1)
 ) [],oq 11 (.slcS 1 (.t 9) (some (.t 10)) none) [9,10],oq 12 (.call 55 [.t 11]) [11],om 8 (.t 12) [12],oq 13 (.ext (.t 8) 0) [],oq 14 (.ext (.t 8) 1) [],oq 15 (.ext (.t 8) 2) [8],om 5 (.t 13)
  [13],om 6 (.t 14) [14],om 7 (.t 15) [15]]) (.seq (.reg [oq 16 (.load none (.t 1)) [],om 17 (.t 6) [6],oq 18 (.bin .add (.t 16) (.t 17)) [16,17],ov (.store 1 (.t 1) (.t 18)) [18]]) (.seq (.regP 5 [oh 19 (.mv (.t 5)
 ) [] [] [20,21],oh 20 (.load none (.t 1)) [] [] [2,19,21],oh 21 (.mv (.t 7)) [] [] [2,3,19,20],oh 2 (.mv (.t 19)) [] [0] [20,21],oh 3 (.mv (.t 20)) [1,5,7,19,20] [0,1,3] [21],oh 4 (.mv (.t 21)
 ) [21] [0,1,2,3,4] []]) (.ret))))⟩
theorem chk85:chkF Tryz.prog 89 sf85=true:=by kernel_rfl

def sf86:SF:=⟨79,[.c 2 (some 64)],.seq (.reg [oq 2 (.new 154 [.int .u32 0,.int .u32 0,.int .u32 0,.int .u32 0,.int .u32 0,.int .u32 0,.int .u32 0,.int .u32 0,.int .u32 0,.int .u32 0,
 .int .u32 0,.int .u32 0,.int .u32 0,.int .u32 0,.int .u32 0,.int .u32 0,.int .u32 0,.int .u32 0,.int .u32 0,.int .u32 0,.int .u32 0,.int .u32 0,.int .u32 0,.int .u32 0,.int .u32 0,.int .u32 0,
 .int .u32 0,.int .u32 0,.int .u32 0,.int .u32 0,.int .u32 0,.int .u32 0,.int .u32 0,.int .u32 0,.int .u32 0,.int .u32 0,.int .u32 0,.int .u32 0,.int .u32 0,.int .u32 0,.int .u32 0,.int .u32 0,
 .int .u32 0,.int .u32 0,.int .u32 0,.int .u32 0,.int .u32 0,.int .u32 0,.int .u32 0,.int .u32 0,.int .u32 0,.int .u32 0,.int .u32 0,.int .u32 0,.int .u32 0,.int .u32 0,.int .u32 0,.int .u32 0,
 .int .u32 0,.int .u32 0,.int .u32 0,.int .u32 0,.int .u32 0,.int .u32 0]) []]) (.seq (.reg [oq 3 (.new 154 [.int .u32 0,.int .u32 0,.int .u32 0,.int .u32 0,.int .u32 0,.int .u32 0,.int .u32 0,
 .int .u32 0,.int .u32 0,.int .u32 0,.int .u32 0,.int .u32 0,.int .u32 0,.int .u32 0,.int .u32 0,.int .u32 0,.int .u32 0,.int .u32 0,.int .u32 0,.int .u32 0,.int .u32 0,.int .u32 0,.int .u32 0,
 .int .u32 0,.int .u32 0,.int .u32 0,.int .u32 0,.int .u32 0,.int .u32 0,.int .u32 0,.int .u32 0,.int .u32 0,.int .u32 0,.int .u32 0,.int .u32 0,.int .u32 0,.int .u32 0,.int .u32 0,.int .u32 0,
 .int .u32 0,.int .u32 0,.int .u32 0,.int .u32 0,.int .u32 0,.int .u32 0,.int .u32 0,.int .u32 0,.int .u32 0,.int .u32 0,.int .u32 0,.int .u32 0,.int .u32 0,.int .u32 0,.int .u32 0,.int .u32 0,
 .int .u32 0,.int .u32 0,.int .u32 0,.int .u32 0,.int .u32 0,.int .u32 0,.int .u32 0,.int .u32 0,.int .u32 0]) []]) (.seq (.seq (.reg [om 11 (.c (.int .i64 0)) []]) (.block 0 (.loop (.seq (.reg [oq 12 (.bin .lss (.t 11)
  (.c (.int .i64 64))) []]) (.seq (.cond (.t 12) (.skip) (.exit 0)) (.seq (.block 1 (.seq (.reg [om 13 (.t 11) [],om 4 (.t 13) [13]]) (.seq (.seq (.reg [om 14 (.t 4) [],oq 15 (.bin .lss (.t 14)
  (.c (.int .i64 16))) [14]]) (.cond (.t 15) (.seq (.seq (.reg [om 16 (.t 0) [],om 17 (.t 4) [],oq 18 (.bin .mul (.c (.int .i64 4)) (.t 17)) [17],om 19 (.t 4) [],oq 20 (.bin .mul (.c (.int .i64 4)
 ) (.t 19)) [19],oq 21 (.bin .add (.t 20) (.c (.int .i64 4))) [20],oq 22 (.slcS 1 (.t 16) (some (.t 18)) (some (.t 21))) [16,18,21],oq 23 (.len false (.t 22)) [],om 24 (.c (.int .i64 0)
 ) []]) (.block 2 (.loop (.seq (.reg [oq 25 (.bin .lss (.t 24) (.t 23)) []]) (.seq (.cond (.t 25) (.skip) (.exit 2)) (.seq (.block 3 (.seq (.reg [oq 26 (.idxS (.t 22) (.t 24) 1) [],oq 27 (.load none (.t 26)
 ) [26],om 6 (.t 27) [27]]) (.reg [om 28 (.t 4) [],om 29 (.t 4) [],oq 30 (.idxA (.t 3) (.t 29) 64 1) [29],oq 31 (.load none (.t 30)) [30],oq 32 (.bin .shl (.t 31) (.c (.int .u64 8)))
  [31],om 33 (.t 6) [6],oq 34 (.conv .u32 (.t 33)) [33],oq 35 (.bin .or (.t 32) (.t 34)) [32,34],oq 36 (.idxA (.t 3) (.t 28) 64 1) [28],ov (.store 1 (.t 36) (.t 35)) [35,36]]))) (.reg [oq 37 (.bin .add (.t 24)
  (.c (.int .i64 1))) [24],om 24 (.t 37) [37]]))))))) (.exit 1)) (.skip))) (.seq (.regP 9 [oh 38 (.mv (.t 4)) [] [] [42,43,44,45],oh 39 (.bin .sub (.t 38) (.c (.int .i64 15))) [] [0] [42,
 43,44,45],oh 40 (.idxA (.t 3) (.t 39) 64 1) [] [0,1] [42,43,44,45],oh 41 (.load none (.t 40)) [] [0,1,2] [42,43,44,45],oh 42 (.mv (.t 4)) [] [] [7,38,39,40,41],oh 43 (.bin .sub (.t 42)
  (.c (.int .i64 2))) [] [4] [7,38,39,40,41],oh 44 (.idxA (.t 3) (.t 43) 64 1) [] [4,5] [7,38,39,40,41],oh 45 (.load none (.t 44)) [] [4,5,6] [7,38,39,40,41],oh 7 (.mv (.t 41)) [38,39,
 40,41,42,43,44] [0,1,2,3] [42,43,44,45],oh 8 (.mv (.t 45)) [45] [0,1,2,3,4,5,6,7,8] []]) (.seq (.reg [om 46 (.t 7) [],oq 47 (.callp 110 [.t 46,.c (.int .i64 (-7))]) [46],om 48 (.t 7)
  [],oq 49 (.callp 110 [.t 48,.c (.int .i64 (-18))]) [48],oq 50 (.bin .xor (.t 47) (.t 49)) [47,49],om 51 (.t 7) [7],oq 52 (.bin .shr (.t 51) (.c (.int .u64 3))) [51],oq 53 (.bin .xor (.t 50)
  (.t 52)) [50,52],om 9 (.t 53) [53]]) (.seq (.reg [om 54 (.t 8) [],oq 55 (.callp 110 [.t 54,.c (.int .i64 (-17))]) [54],om 56 (.t 8) [],oq 57 (.callp 110 [.t 56,.c (.int .i64 (-19))
 ]) [56],oq 58 (.bin .xor (.t 55) (.t 57)) [55,57],om 59 (.t 8) [8],oq 60 (.bin .shr (.t 59) (.c (.int .u64 10))) [59],oq 61 (.bin .xor (.t 58) (.t 60)) [58,60],om 10 (.t 61) [61]]) (.regP 14 [oh 62 (.mv (.t 4)
 ) [] [] [63,64,65,66,67,68,69,70,71,72,73,74,75],oh 63 (.mv (.t 4)) [] [] [62,67,69,70,71,72,74],oh 64 (.bin .sub (.t 63) (.c (.int .i64 16))) [] [1] [62,67,69,70,71,72,74],oh 65 (.idxA (.t 3)
  (.t 64) 64 1) [] [1,2] [62,67,69,70,71,72,74],oh 66 (.load none (.t 65)) [] [1,2,3] [62,67,69,70,71,72,74],oh 67 (.mv (.t 9)) [] [] [62,63,64,65,66,69,70,71,72,74],oh 68 (.bin .add (.t 66)
  (.t 67)) [] [1,2,3,4,5] [62,69,70,71,72,74],oh 69 (.mv (.t 4)) [] [] [62,63,64,65,66,67,68,74],oh 70 (.bin .sub (.t 69) (.c (.int .i64 7))) [] [7] [62,63,64,65,66,67,68,74],oh 71 (.idxA (.t 3)
  (.t 70) 64 1) [] [7,8] [62,63,64,65,66,67,68,74],oh 72 (.load none (.t 71)) [] [7,8,9] [62,63,64,65,66,67,68,74],oh 73 (.bin .add (.t 68) (.t 72)) [] [1,2,3,4,5,6,7,8,9,10] [62,74],
 oh 74 (.mv (.t 10)) [] [] [62,63,64,65,66,67,68,69,70,71,72,73],oh 75 (.bin .add (.t 73) (.t 74)) [4,9,10,63,64,65,66,67,68,69,70,71,72,73,74] [1,2,3,4,5,6,7,8,9,10,11,12] [62],oh 76 (.idxA (.t 3)
  (.t 62) 64 1) [62] [0,1,2,3,4,5,6,7,8,9,10,11,12,13] [],⟨none,.store 1 (.t 76) (.t 75),none,[75,76],[0,1,2,3,4,5,6,7,8,9,10,11,12,13,14],[]⟩]))))))) (.reg [oq 77 (.bin .add (.t 11)
  (.c (.int .i64 1))) [11],om 11 (.t 77) [77]]))))))) (.seq (.reg [oq 78 (.load (some 64) (.t 3)) [3],ov (.store 64 (.t 2) (.t 78)) [78]]) (.ret))))⟩
theorem chk86:chkF Tryz.prog 105 sf86=true:=by kernel_rfl

def sf87:SF:=⟨23,[.t 8],.seq (.reg [om 8 (.c (.int .u32 0)) [8]]) (.seq (.reg [om 9 (.t 0) [],om 10 (.t 1) [1],oq 11 (.un .neg (.t 10)) [10],oq 12 (.callp 110 [.t 9,.t 11]) [9,11],
 om 13 (.t 0) [],om 14 (.t 2) [2],oq 15 (.un .neg (.t 14)) [14],oq 16 (.callp 110 [.t 13,.t 15]) [13,15],oq 17 (.bin .xor (.t 12) (.t 16)) [12,16],om 18 (.t 0) [0],om 19 (.t 3) [3],oq 20 (.un .neg (.t 19)
 ) [19],oq 21 (.callp 110 [.t 18,.t 20]) [18,20],oq 22 (.bin .xor (.t 17) (.t 21)) [17,21],om 8 (.t 22) [22]]) (.ret))⟩
theorem chk87:chkF Tryz.prog 106 sf87=true:=by kernel_rfl

def sf88:SF:=⟨37,[.t 2],.seq (.reg [om 2 (.c (.val (.slice none 0 0))) [2]]) (.seq (.reg [oq 6 (.bslice 5 1 0 [] []) [],om 7 (.t 0) [],oq 8 (.app 5 1 1 (.t 6) (.t 7)) [6,7],om 3 (.t 8)
  [8]]) (.seq (.reg [om 9 (.t 3) [3],oq 10 (.bslice 5 1 1 [.int .u8 0] [(0,1,.c (.int .u8 128))]) [],oq 11 (.app 5 1 1 (.t 9) (.t 10)) [9,10],om 3 (.t 11) [11]]) (.seq (.block 0 (.loop (.seq (.seq (.reg [om 12 (.t 3)
  [],oq 13 (.len false (.t 12)) [12],oq 14 (.bin .rem (.t 13) (.c (.int .i64 64))) [13],oq 15 (.bin .neq (.t 14) (.c (.int .i64 56))) [14]]) (.cond (.t 15) (.skip) (.exit 0))) (.block 1 (.reg [om 16 (.t 3)
  [3],oq 17 (.bslice 5 1 1 [.int .u8 0] [(0,1,.c (.int .u8 0))]) [],oq 18 (.app 5 1 1 (.t 16) (.t 17)) [16,17],om 3 (.t 18) [18]]))))) (.seq (.reg [om 19 (.t 0) [0],oq 20 (.len false (.t 19)
 ) [19],oq 21 (.conv .u64 (.t 20)) [20],oq 22 (.bin .mul (.c (.int .u64 8)) (.t 21)) [21],om 4 (.t 22) [22]]) (.seq (.seq (.reg [om 5 (.c (.int .i64 0)) []]) (.block 2 (.loop (.seq (.seq (.reg [om 23 (.t 5)
  [],oq 24 (.bin .lss (.t 23) (.c (.int .i64 8))) [23]]) (.cond (.t 24) (.skip) (.exit 2))) (.seq (.block 3 (.reg [om 27 (.t 3) [3],om 28 (.t 4) [],om 29 (.t 5) [],oq 30 (.bin .mul (.c (.int .i64 8)
 ) (.t 29)) [29],oq 31 (.bin .sub (.c (.int .i64 56)) (.t 30)) [30],oq 32 (.bin .shr (.t 28) (.t 31)) [28,31],oq 33 (.conv .u8 (.t 32)) [32],oq 34 (.bslice 5 1 1 [.int .u8 0] [(0,1,.t 33)
 ]) [33],oq 35 (.app 5 1 1 (.t 27) (.t 34)) [27,34],om 3 (.t 35) [35]])) (.reg [om 25 (.t 5) [5],oq 26 (.bin .add (.t 25) (.c (.int .i64 1))) [25],om 5 (.t 26) [26]])))))) (.seq (.reg [om 36 (.t 3)
  [3],om 2 (.t 36) [36]]) (.ret)))))))⟩
theorem chk88:chkF Tryz.prog 102 sf88=true:=by kernel_rfl

def sf89:SF:=⟨101,[.c 2 (some 64)],.seq (.reg [oq 2 (.new 154 [.int .u32 0,.int .u32 0,.int .u32 0,.int .u32 0,.int .u32 0,.int .u32 0,.int .u32 0,.int .u32 0,.int .u32 0,.int .u32 0,
 .int .u32 0,.int .u32 0,.int .u32 0,.int .u32 0,.int .u32 0,.int .u32 0,.int .u32 0,.int .u32 0,.int .u32 0,.int .u32 0,.int .u32 0,.int .u32 0,.int .u32 0,.int .u32 0,.int .u32 0,.int .u32 0,
 .int .u32 0,.int .u32 0,.int .u32 0,.int .u32 0,.int .u32 0,.int .u32 0,.int .u32 0,.int .u32 0,.int .u32 0,.int .u32 0,.int .u32 0,.int .u32 0,.int .u32 0,.int .u32 0,.int .u32 0,.int .u32 0,
 .int .u32 0,.int .u32 0,.int .u32 0,.int .u32 0,.int .u32 0,.int .u32 0,.int .u32 0,.int .u32 0,.int .u32 0,.int .u32 0,.int .u32 0,.int .u32 0,.int .u32 0,.int .u32 0,.int .u32 0,.int .u32 0,
 .int .u32 0,.int .u32 0,.int .u32 0,.int .u32 0,.int .u32 0,.int .u32 0]) []]) (.seq (.reg [oq 3 (.new 154 [.int .u32 0,.int .u32 0,.int .u32 0,.int .u32 0,.int .u32 0,.int .u32 0,.int .u32 0,
 .int .u32 0,.int .u32 0,.int .u32 0,.int .u32 0,.int .u32 0,.int .u32 0,.int .u32 0,.int .u32 0,.int .u32 0,.int .u32 0,.int .u32 0,.int .u32 0,.int .u32 0,.int .u32 0,.int .u32 0,.int .u32 0,
 .int .u32 0,.int .u32 0,.int .u32 0,.int .u32 0,.int .u32 0,.int .u32 0,.int .u32 0,.int .u32 0,.int .u32 0,.int .u32 0,.int .u32 0,.int .u32 0,.int .u32 0,.int .u32 0,.int .u32 0,.int .u32 0,
 .int .u32 0,.int .u32 0,.int .u32 0,.int .u32 0,.int .u32 0,.int .u32 0,.int .u32 0,.int .u32 0,.int .u32 0,.int .u32 0,.int .u32 0,.int .u32 0,.int .u32 0,.int .u32 0,.int .u32 0,.int .u32 0,
 .int .u32 0,.int .u32 0,.int .u32 0,.int .u32 0,.int .u32 0,.int .u32 0,.int .u32 0,.int .u32 0,.int .u32 0]) []]) (.seq (.seq (.reg [om 4 (.c (.int .i64 0)) []]) (.block 0 (.loop (.seq (.seq (.reg [om 8 (.t 4)
  [],oq 9 (.bin .lss (.t 8) (.c (.int .i64 16))) [8]]) (.cond (.t 9) (.skip) (.exit 0))) (.seq (.block 1 (.regP 34 [oh 12 (.mv (.t 4)) [] [] [13,14,15,16,17,18,19,20,21,22,23,24,25,26,
 27,28,29,30,31,32,33,34,35,36,37,38,39,40,41,42,43,44,45],oh 13 (.mv (.t 0)) [] [] [12,14,15,20,21,22,23,24,25,26,27,29,30,31,32,33,34,35,36,38,39,40,41,42,43,44],oh 14 (.mv (.t 4))
  [] [] [12,13,20,21,22,23,24,25,26,27,29,30,31,32,33,34,35,36,38,39,40,41,42,43,44],oh 15 (.bin .mul (.c (.int .i64 4)) (.t 14)) [] [2] [12,13,20,21,22,23,24,25,26,27,29,30,31,32,33,
 34,35,36,38,39,40,41,42,43,44],oh 16 (.idxS (.t 13) (.t 15) 1) [] [1,2,3] [12,20,21,22,23,24,25,26,27,29,30,31,32,33,34,35,36,38,39,40,41,42,43,44],oh 17 (.load none (.t 16)) [] [1,
 2,3,4] [12,20,21,22,23,24,25,26,27,29,30,31,32,33,34,35,36,38,39,40,41,42,43,44],oh 18 (.conv .u32 (.t 17)) [] [1,2,3,4,5] [12,20,21,22,23,24,25,26,27,29,30,31,32,33,34,35,36,38,39,
 40,41,42,43,44],oh 19 (.bin .shl (.t 18) (.c (.int .u64 24))) [] [1,2,3,4,5,6] [12,20,21,22,23,24,25,26,27,29,30,31,32,33,34,35,36,38,39,40,41,42,43,44],oh 20 (.mv (.t 0)) [] [] [12,
 13,14,15,16,17,18,19,21,22,23,29,30,31,32,33,34,35,36,38,39,40,41,42,43,44],oh 21 (.mv (.t 4)) [] [] [12,13,14,15,16,17,18,19,20,29,30,31,32,33,34,35,36,38,39,40,41,42,43,44],oh 22 (.bin .mul (.c (.int .i64 4)
 ) (.t 21)) [] [9] [12,13,14,15,16,17,18,19,20,29,30,31,32,33,34,35,36,38,39,40,41,42,43,44],oh 23 (.bin .add (.t 22) (.c (.int .i64 1))) [] [9,10] [12,13,14,15,16,17,18,19,20,29,30,
 31,32,33,34,35,36,38,39,40,41,42,43,44],oh 24 (.idxS (.t 20) (.t 23) 1) [] [8,9,10,11] [12,13,14,15,16,17,18,19,29,30,31,32,33,34,35,36,38,39,40,41,42,43,44],oh 25 (.load none (.t 24)
 ) [] [8,9,10,11,12] [12,13,14,15,16,17,18,19,29,30,31,32,33,34,35,36,38,39,40,41,42,43,44],oh 26 (.conv .u32 (.t 25)) [] [8,9,10,11,12,13] [12,13,14,15,16,17,18,19,29,30,31,32,33,34,
 35,36,38,39,40,41,42,43,44],oh 27 (.bin .shl (.t 26) (.c (.int .u64 16))) [] [8,9,10,11,12,13,14] [12,13,14,15,16,17,18,19,29,30,31,32,33,34,35,36,38,39,40,41,42,43,44],oh 28 (.bin .or (.t 19)
  (.t 27)) [] [1,2,3,4,5,6,7,8,9,10,11,12,13,14,15] [12,29,30,31,32,33,34,35,36,38,39,40,41,42,43,44],oh 29 (.mv (.t 0)) [] [] [12,13,14,15,16,17,18,19,20,21,22,23,24,25,26,27,28,30,
 31,32,38,39,40,41,42,43,44],oh 30 (.mv (.t 4)) [] [] [12,13,14,15,16,17,18,19,20,21,22,23,24,25,26,27,28,29,38,39,40,41,42,43,44],oh 31 (.bin .mul (.c (.int .i64 4)) (.t 30)) [] [18] [12,
 13,14,15,16,17,18,19,20,21,22,23,24,25,26,27,28,29,38,39,40,41,42,43,44],oh 32 (.bin .add (.t 31) (.c (.int .i64 2))) [] [18,19] [12,13,14,15,16,17,18,19,20,21,22,23,24,25,26,27,28,
 29,38,39,40,41,42,43,44],oh 33 (.idxS (.t 29) (.t 32) 1) [] [17,18,19,20] [12,13,14,15,16,17,18,19,20,21,22,23,24,25,26,27,28,38,39,40,41,42,43,44],oh 34 (.load none (.t 33)) [] [17,
 18,19,20,21] [12,13,14,15,16,17,18,19,20,21,22,23,24,25,26,27,28,38,39,40,41,42,43,44],oh 35 (.conv .u32 (.t 34)) [] [17,18,19,20,21,22] [12,13,14,15,16,17,18,19,20,21,22,23,24,25,26,
 27,28,38,39,40,41,42,43,44],oh 36 (.bin .shl (.t 35) (.c (.int .u64 8))) [] [17,18,19,20,21,22,23] [12,13,14,15,16,17,18,19,20,21,22,23,24,25,26,27,28,38,39,40,41,42,43,44],oh 37 (.bin .or (.t 28)
  (.t 36)) [] [1,2,3,4,5,6,7,8,9,10,11,12,13,14,15,16,17,18,19,20,21,22,23,24] [12,38,39,40,41,42,43,44],oh 38 (.mv (.t 0)) [] [] [12,13,14,15,16,17,18,19,20,21,22,23,24,25,26,27,28,
 29,30,31,32,33,34,35,36,37,39,40,41],oh 39 (.mv (.t 4)) [] [] [12,13,14,15,16,17,18,19,20,21,22,23,24,25,26,27,28,29,30,31,32,33,34,35,36,37,38],oh 40 (.bin .mul (.c (.int .i64 4)) (.t 39)
 ) [] [27] [12,13,14,15,16,17,18,19,20,21,22,23,24,25,26,27,28,29,30,31,32,33,34,35,36,37,38],oh 41 (.bin .add (.t 40) (.c (.int .i64 3))) [] [27,28] [12,13,14,15,16,17,18,19,20,21,22,
 23,24,25,26,27,28,29,30,31,32,33,34,35,36,37,38],oh 42 (.idxS (.t 38) (.t 41) 1) [] [26,27,28,29] [12,13,14,15,16,17,18,19,20,21,22,23,24,25,26,27,28,29,30,31,32,33,34,35,36,37],oh 43 (.load none (.t 42)
 ) [] [26,27,28,29,30] [12,13,14,15,16,17,18,19,20,21,22,23,24,25,26,27,28,29,30,31,32,33,34,35,36,37],oh 44 (.conv .u32 (.t 43)) [] [26,27,28,29,30,31] [12,13,14,15,16,17,18,19,20,21,
 22,23,24,25,26,27,28,29,30,31,32,33,34,35,36,37],oh 45 (.bin .or (.t 37) (.t 44)) [13,14,15,16,17,18,19,20,21,22,23,24,25,26,27,28,29,30,31,32,33,34,35,36,37,38,39,40,41,42,43,44] [1,
 2,3,4,5,6,7,8,9,10,11,12,13,14,15,16,17,18,19,20,21,22,23,24,25,26,27,28,29,30,31,32] [12],oh 46 (.idxA (.t 3) (.t 12) 64 1) [12] [0,1,2,3,4,5,6,7,8,9,10,11,12,13,14,15,16,17,18,19,
 20,21,22,23,24,25,26,27,28,29,30,31,32,33] [],⟨none,.store 1 (.t 46) (.t 45),none,[45,46],[0,1,2,3,4,5,6,7,8,9,10,11,12,13,14,15,16,17,18,19,20,21,22,23,24,25,26,27,28,29,30,31,32,33,
 34],[]⟩])) (.reg [om 10 (.t 4) [4],oq 11 (.bin .add (.t 10) (.c (.int .i64 1))) [10],om 4 (.t 11) [11]])))))) (.seq (.seq (.reg [om 5 (.c (.int .i64 16)) []]) (.block 2 (.loop (.seq (.seq (.reg [om 47 (.t 5)
  [],oq 48 (.bin .lss (.t 47) (.c (.int .i64 64))) [47]]) (.cond (.t 48) (.skip) (.exit 2))) (.seq (.block 3 (.seq (.regP 16 [oh 51 (.mv (.t 5)) [] [] [56,57,58,59,62,63,64,65,66],oh 52 (.bin .sub (.t 51)
  (.c (.int .i64 15))) [] [0] [56,57,58,59,62,63,64,65,66],oh 53 (.idxA (.t 3) (.t 52) 64 1) [] [0,1] [56,57,58,59,62,63,64,65,66],oh 54 (.load none (.t 53)) [] [0,1,2] [56,57,58,59,
 62,63,64,65,66],oh 55 (.callp 104 [.t 54,.c (.int .i64 7)]) [] [0,1,2,3] [56,57,58,59,62,63,64,65,66],oh 56 (.mv (.t 5)) [] [] [51,52,53,54,55,62,63,64,65,66],oh 57 (.bin .sub (.t 56)
  (.c (.int .i64 15))) [] [5] [51,52,53,54,55,62,63,64,65,66],oh 58 (.idxA (.t 3) (.t 57) 64 1) [] [5,6] [51,52,53,54,55,62,63,64,65,66],oh 59 (.load none (.t 58)) [] [5,6,7] [51,52,
 53,54,55,62,63,64,65,66],oh 60 (.callp 104 [.t 59,.c (.int .i64 18)]) [] [0,1,2,3,4,5,6,7,8] [62,63,64,65,66],oh 61 (.bin .xor (.t 55) (.t 60)) [] [0,1,2,3,4,5,6,7,8,9] [62,63,64,65,
 66],oh 62 (.mv (.t 5)) [] [] [51,52,53,54,55,56,57,58,59,60,61],oh 63 (.bin .sub (.t 62) (.c (.int .i64 15))) [] [11] [51,52,53,54,55,56,57,58,59,60,61],oh 64 (.idxA (.t 3) (.t 63) 64 1)
  [] [11,12] [51,52,53,54,55,56,57,58,59,60,61],oh 65 (.load none (.t 64)) [] [11,12,13] [51,52,53,54,55,56,57,58,59,60,61],oh 66 (.bin .shr (.t 65) (.c (.int .u64 3))) [51,52,53,54,
 55,56,57,58,59,60,62,63,64,65] [11,12,13,14] [51,52,53,54,55,56,57,58,59,60,61],oh 67 (.bin .xor (.t 61) (.t 66)) [61,66] [0,1,2,3,4,5,6,7,8,9,10,11,12,13,14,15] [],oh 6 (.mv (.t 67)
 ) [67] [0,1,2,3,4,5,6,7,8,9,10,11,12,13,14,15,16] []]) (.seq (.regP 16 [oh 68 (.mv (.t 5)) [] [] [73,74,75,76,79,80,81,82,83],oh 69 (.bin .sub (.t 68) (.c (.int .i64 2))) [] [0] [73,
 74,75,76,79,80,81,82,83],oh 70 (.idxA (.t 3) (.t 69) 64 1) [] [0,1] [73,74,75,76,79,80,81,82,83],oh 71 (.load none (.t 70)) [] [0,1,2] [73,74,75,76,79,80,81,82,83],oh 72 (.callp 104 [.t 71,
 .c (.int .i64 17)]) [] [0,1,2,3] [73,74,75,76,79,80,81,82,83],oh 73 (.mv (.t 5)) [] [] [68,69,70,71,72,79,80,81,82,83],oh 74 (.bin .sub (.t 73) (.c (.int .i64 2))) [] [5] [68,69,70,
 71,72,79,80,81,82,83],oh 75 (.idxA (.t 3) (.t 74) 64 1) [] [5,6] [68,69,70,71,72,79,80,81,82,83],oh 76 (.load none (.t 75)) [] [5,6,7] [68,69,70,71,72,79,80,81,82,83],oh 77 (.callp 104 [.t 76,
 .c (.int .i64 19)]) [] [0,1,2,3,4,5,6,7,8] [79,80,81,82,83],oh 78 (.bin .xor (.t 72) (.t 77)) [] [0,1,2,3,4,5,6,7,8,9] [79,80,81,82,83],oh 79 (.mv (.t 5)) [] [] [68,69,70,71,72,73,74,
 75,76,77,78],oh 80 (.bin .sub (.t 79) (.c (.int .i64 2))) [] [11] [68,69,70,71,72,73,74,75,76,77,78],oh 81 (.idxA (.t 3) (.t 80) 64 1) [] [11,12] [68,69,70,71,72,73,74,75,76,77,78],
 oh 82 (.load none (.t 81)) [] [11,12,13] [68,69,70,71,72,73,74,75,76,77,78],oh 83 (.bin .shr (.t 82) (.c (.int .u64 10))) [68,69,70,71,72,73,74,75,76,77,79,80,81,82] [11,12,13,14] [68,
 69,70,71,72,73,74,75,76,77,78],oh 84 (.bin .xor (.t 78) (.t 83)) [78,83] [0,1,2,3,4,5,6,7,8,9,10,11,12,13,14,15] [],oh 7 (.mv (.t 84)) [84] [0,1,2,3,4,5,6,7,8,9,10,11,12,13,14,15,16] []])
  (.regP 14 [oh 85 (.mv (.t 5)) [] [] [86,87,88,89,90,91,92,93,94,95,96,97,98],oh 86 (.mv (.t 5)) [] [] [85,90,92,93,94,95,97],oh 87 (.bin .sub (.t 86) (.c (.int .i64 16))) [] [1] [85,
 90,92,93,94,95,97],oh 88 (.idxA (.t 3) (.t 87) 64 1) [] [1,2] [85,90,92,93,94,95,97],oh 89 (.load none (.t 88)) [] [1,2,3] [85,90,92,93,94,95,97],oh 90 (.mv (.t 6)) [] [] [85,86,87,
 88,89,92,93,94,95,97],oh 91 (.bin .add (.t 89) (.t 90)) [] [1,2,3,4,5] [85,92,93,94,95,97],oh 92 (.mv (.t 5)) [] [] [85,86,87,88,89,90,91,97],oh 93 (.bin .sub (.t 92) (.c (.int .i64 7)
 )) [] [7] [85,86,87,88,89,90,91,97],oh 94 (.idxA (.t 3) (.t 93) 64 1) [] [7,8] [85,86,87,88,89,90,91,97],oh 95 (.load none (.t 94)) [] [7,8,9] [85,86,87,88,89,90,91,97],oh 96 (.bin .add (.t 91)
  (.t 95)) [] [1,2,3,4,5,6,7,8,9,10] [85,97],oh 97 (.mv (.t 7)) [] [] [85,86,87,88,89,90,91,92,93,94,95,96],oh 98 (.bin .add (.t 96) (.t 97)) [6,7,86,87,88,89,90,91,92,93,94,95,96,97] [1,
 2,3,4,5,6,7,8,9,10,11,12] [85],oh 99 (.idxA (.t 3) (.t 85) 64 1) [85] [0,1,2,3,4,5,6,7,8,9,10,11,12,13] [],⟨none,.store 1 (.t 99) (.t 98),none,[98,99],[0,1,2,3,4,5,6,7,8,9,10,11,12,
 13,14],[]⟩])))) (.reg [om 49 (.t 5) [5],oq 50 (.bin .add (.t 49) (.c (.int .i64 1))) [49],om 5 (.t 50) [50]])))))) (.seq (.reg [oq 100 (.load (some 64) (.t 3)) [3],ov (.store 64 (.t 2)
  (.t 100)) [100]]) (.ret)))))⟩
theorem chk89:chkF Tryz.prog 103 sf89=true:=by kernel_rfl

def sf90:SF:=⟨13,[.t 4],.seq (.reg [om 4 (.c (.int .u32 0)) [4]]) (.seq (.regP 7 [oh 5 (.mv (.t 0)) [] [] [6,8,9,10,11],oh 6 (.mv (.t 1)) [] [] [5,8,9,10,11],oh 7 (.bin .shr (.t 5)
  (.t 6)) [] [0,1] [8,9,10,11],oh 8 (.mv (.t 0)) [] [] [5,6,7,9,10],oh 9 (.mv (.t 1)) [] [] [5,6,7,8],oh 10 (.bin .sub (.c (.int .i64 32)) (.t 9)) [] [4] [5,6,7,8],oh 11 (.bin .shl (.t 8)
  (.t 10)) [0,1,5,6,8,9,10] [3,4,5] [5,6,7],oh 12 (.bin .or (.t 7) (.t 11)) [7,11] [0,1,2,3,4,5,6] [],oh 4 (.mv (.t 12)) [12] [0,1,2,3,4,5,6,7] []]) (.ret))⟩
theorem chk90:chkF Tryz.prog 104 sf90=true:=by kernel_rfl

def sf93:SF:=⟨12,[.t 4],.seq (.reg [om 4 (.c (.bool false)) [4]]) (.seq (.reg [om 5 (.t 0) [],oq 6 (.bin .geq (.t 5) (.c (.int .i64 0))) [5],om 7 (.t 6) [6],og 8 (.mv (.t 0)) 7 true [0],
 og 9 (.mv (.t 1)) 7 true [1],og 10 (.bin .leq (.t 8) (.t 9)) 7 true [8,9],oq 11 (.pick (.t 7) (.t 10) (.c (.bool false))) [7,10],om 4 (.t 11) [11]]) (.ret))⟩
theorem chk93:chkF Tryz.prog 95 sf93=true:=by kernel_rfl

def sf94:SF:=⟨44,[],.seq (.reg [om 6 (.c (.int .i64 0)) []]) (.block 0 (.loop (.seq (.seq (.reg [om 8 (.t 0) [],oq 9 (.bin .gtr (.t 8) (.c (.int .i64 1))) [8]]) (.cond (.t 9) (.skip)
  (.exit 0))) (.block 1 (.seq (.reg [om 10 (.t 0) [],oq 11 (.callp 108 [.t 10]) [10],om 7 (.t 11) [11]]) (.seq (.seq (.reg [om 12 (.t 1) [],om 13 (.t 6) [],oq 14 (.bin .sub (.t 12) (.t 13)
 ) [12,13],om 15 (.t 7) [],oq 16 (.bin .lss (.t 14) (.t 15)) [14,15]]) (.cond (.t 16) (.seq (.reg [om 17 (.t 2) [],om 18 (.t 6) [],om 19 (.t 7) [],om 20 (.t 6) [],om 21 (.t 7) [],oq 22 (.bin .add (.t 20)
  (.t 21)) [20,21],om 23 (.t 0) [0],om 24 (.t 7) [],oq 25 (.bin .sub (.t 23) (.t 24)) [23,24],oq 26 (.callv (.t 17) [.t 18,.t 19,.t 22,.t 25]) [17,18,19,22,25,26]]) (.seq (.reg [om 27 (.t 7)
  [7],om 0 (.t 27) [27]]) (.exit 1))) (.skip))) (.seq (.reg [om 28 (.t 2) [],om 29 (.t 6) [],om 30 (.t 7) [],oq 31 (.bin .add (.t 29) (.t 30)) [29,30],om 32 (.t 0) [],om 33 (.t 7) [],
 oq 34 (.bin .sub (.t 32) (.t 33)) [32,33],om 35 (.t 6) [],om 36 (.t 7) [],oq 37 (.callv (.t 28) [.t 31,.t 34,.t 35,.t 36]) [28,31,34,35,36,37]]) (.reg [om 38 (.t 6) [6],om 39 (.t 7)
  [],oq 40 (.bin .add (.t 38) (.t 39)) [38,39],om 41 (.t 0) [0],om 42 (.t 7) [7],oq 43 (.bin .sub (.t 41) (.t 42)) [41,42],om 6 (.t 40) [40],om 0 (.t 43) [43]]))))))))⟩
theorem chk94:chkF Tryz.prog 96 sf94=true:=by kernel_rfl

def sf95:SF:=⟨15,[],.reg [oq 9 (.load none (.t 4)) [],om 10 (.t 2) [2],om 11 (.t 0) [0],oq 12 (.bin .lss (.t 10) (.t 11)) [10,11],oq 13 (.bslice 4 1 1 [.bool false] [(0,1,.t 12)
 ]) [12],oq 14 (.app 4 1 1 (.t 9) (.t 13)) [9,13],ov (.store 1 (.t 4) (.t 14)) [4,14]]⟩
theorem chk95:chkF Tryz.prog 97 sf95=true:=by kernel_rfl

def sf96:SF:=⟨28,[],.seq (.reg [om 4 (.t 0) [],oq 5 (.len false (.t 4)) [4],oq 6 (.bin .sub (.t 5) (.c (.int .i64 1))) [5],om 2 (.c (.int .i64 0)) [],om 3 (.t 6) [6]]) (.block 0 (.loop (.seq (.seq (.reg [om 7 (.t 2)
  [],om 8 (.t 3) [],oq 9 (.bin .lss (.t 7) (.t 8)) [7,8]]) (.cond (.t 9) (.skip) (.exit 0))) (.seq (.block 1 (.regW 14 [oh 14 (.mv (.t 0)) [] [] [15,16,17,18,19,20,21,22,23,24,25],oh 15 (.mv (.t 2)
 ) [] [] [14,16,17,18,19,20,21,22,23,24,25],oh 16 (.mv (.t 0)) [] [] [14,15,17,18,19,20,21,22,23,24,25,26],oh 17 (.mv (.t 3)) [] [] [14,15,16,18,19,20,21,22,23,24,25,26],oh 18 (.mv (.t 0)
 ) [] [] [14,15,16,17,19,22,23,24,25],oh 19 (.mv (.t 3)) [] [] [14,15,16,17,18,22,23,24,25],oh 20 (.idxS (.t 18) (.t 19) 1) [] [4,5] [14,15,16,17,22,23,24,25],oh 21 (.load none (.t 20)
 ) [] [4,5,6] [14,15,16,17,22,23,24,25],oh 22 (.mv (.t 0)) [] [] [14,15,16,17,18,19,20,21,23],oh 23 (.mv (.t 2)) [] [] [14,15,16,17,18,19,20,21,22],oh 24 (.idxS (.t 22) (.t 23) 1) [] [8,
 9] [14,15,16,17,18,19,20,21],oh 25 (.load none (.t 24)) [] [8,9,10] [14,15,16,17,18,19,20,21],oh 26 (.idxS (.t 14) (.t 15) 1) [] [0,1,4,5,6,7,8,9,10,11] [16,17],⟨none,.store 1 (.t 26)
  (.t 21),none,[14,15,18,19,20,21,22,23,24,26],[0,1,4,5,6,7,8,9,10,11,12],[16,17]⟩,oh 27 (.idxS (.t 16) (.t 17) 1) [16,17] [0,1,2,3,4,5,6,7,8,9,10,11,12,13] [],⟨none,.store 1 (.t 27)
  (.t 25),none,[25,27],[0,1,2,3,4,5,6,7,8,9,10,11,12,13,14],[]⟩])) (.reg [om 10 (.t 2) [2],oq 11 (.bin .add (.t 10) (.c (.int .i64 1))) [10],om 12 (.t 3) [3],oq 13 (.bin .sub (.t 12)
  (.c (.int .i64 1))) [12],om 2 (.t 11) [11],om 3 (.t 13) [13]])))))⟩
theorem chk96:chkF Tryz.prog 98 sf96=true:=by kernel_rfl

def sf97:SF:=⟨6,[.t 2],.seq (.reg [oq 1 (.box 23 (.t 0)) [0],om 2 (.c (.val (.slice none 0 0))) [2]]) (.seq (.reg [oq 3 (.load (some 16) (.t 1)) [1],oq 4 (.bslice 23 16 1 [.int .u8 0,
 .int .u8 0,.int .u8 0,.int .u8 0,.int .u8 0,.int .u8 0,.int .u8 0,.int .u8 0,.int .u8 0,.int .u8 0,.int .u8 0,.int .u8 0,.int .u8 0,.int .u8 0,.int .u8 0,.int .u8 0] [(0,16,.t 3)]) [3],
 oq 5 (.call 109 [.c (.int .u8 1),.t 4]) [4],om 2 (.t 5) [5]]) (.ret))⟩
theorem chk97:chkF Tryz.prog 99 sf97=true:=by kernel_rfl

def sf98:SF:=⟨9,[.t 4],.seq (.reg [oq 2 (.box 23 (.t 0)) [0],oq 3 (.box 23 (.t 1)) [1],om 4 (.c (.val (.slice none 0 0))) [4]]) (.seq (.reg [oq 5 (.load (some 16) (.t 2)) [2],oq 6 (.load (some 16)
  (.t 3)) [3],oq 7 (.bslice 23 16 2 [.int .u8 0,.int .u8 0,.int .u8 0,.int .u8 0,.int .u8 0,.int .u8 0,.int .u8 0,.int .u8 0,.int .u8 0,.int .u8 0,.int .u8 0,.int .u8 0,.int .u8 0,.int .u8 0,
 .int .u8 0,.int .u8 0,.int .u8 0,.int .u8 0,.int .u8 0,.int .u8 0,.int .u8 0,.int .u8 0,.int .u8 0,.int .u8 0,.int .u8 0,.int .u8 0,.int .u8 0,.int .u8 0,.int .u8 0,.int .u8 0,.int .u8 0,
 .int .u8 0] [(0,16,.t 5),(16,16,.t 6)]) [5,6],oq 8 (.call 109 [.c (.int .u8 2),.t 7]) [7],om 4 (.t 8) [8]]) (.ret))⟩
theorem chk98:chkF Tryz.prog 100 sf98=true:=by kernel_rfl

def sf99:SF:=⟨8,[.c 2 (some 32)],.seq (.reg [oq 2 (.new 121 [.int .u8 0,.int .u8 0,.int .u8 0,.int .u8 0,.int .u8 0,.int .u8 0,.int .u8 0,.int .u8 0,.int .u8 0,.int .u8 0,.int .u8 0,
 .int .u8 0,.int .u8 0,.int .u8 0,.int .u8 0,.int .u8 0,.int .u8 0,.int .u8 0,.int .u8 0,.int .u8 0,.int .u8 0,.int .u8 0,.int .u8 0,.int .u8 0,.int .u8 0,.int .u8 0,.int .u8 0,.int .u8 0,
 .int .u8 0,.int .u8 0,.int .u8 0,.int .u8 0]) []]) (.seq (.regD 3 [oh 3 (.callp 70 []) [] [] [4,5],oh 4 (.mv (.t 0)) [] [] [3],oh 5 (.b2s (.t 4)) [0,4] [1] [3],oh 6 (.callp 71 [.t 3,
 .t 5]) [3,5] [0,1,2] [],oh 7 (.callp 72 [.t 6]) [6] [0,1,2,3] [],⟨none,.store 32 (.t 2) (.t 7),none,[7],[0,1,2,3,4],[]⟩]) (.ret))⟩
theorem chk99:chkF Tryz.prog 101 sf99=true:=by kernel_rfl

def sf100:SF:=⟨43,[.t 2],.seq (.reg [oq 1 (.box 23 (.t 0)) [0],om 2 (.c (.val (.slice none 0 0))) [2]]) (.seq (.reg [om 3 (.c (.val (.slice none 0 0))) []]) (.seq (.reg [om 4 (.c (.int .i64 0)
 ) []]) (.seq (.seq (.reg [om 5 (.c (.int .i64 0)) []]) (.block 0 (.loop (.seq (.seq (.reg [om 8 (.t 5) [],oq 9 (.bin .lss (.t 8) (.c (.int .i64 16))) [8]]) (.cond (.t 9) (.skip) (.exit 0)
 )) (.seq (.block 1 (.seq (.reg [om 12 (.t 5) [],oq 13 (.idxA (.t 1) (.t 12) 16 1) [12],oq 14 (.load none (.t 13)) [13],oq 15 (.conv .i64 (.t 14)) [14],oq 16 (.bin .quo (.t 15) (.c (.int .i64 16)
 )) [15],om 6 (.t 16) [16]]) (.seq (.reg [om 17 (.t 5) [],oq 18 (.idxA (.t 1) (.t 17) 16 1) [17],oq 19 (.load none (.t 18)) [18],oq 20 (.conv .i64 (.t 19)) [19],oq 21 (.bin .rem (.t 20)
  (.c (.int .i64 16))) [20],om 7 (.t 21) [21]]) (.seq (.reg [om 22 (.t 3) [3],om 23 (.t 6) [],om 24 (.t 7) [],oq 25 (.bslice 3 1 2 [.int .i64 0,.int .i64 0] [(0,1,.t 23),(1,1,.t 24)])
  [23,24],oq 26 (.app 3 1 8 (.t 22) (.t 25)) [22,25],om 3 (.t 26) [26]]) (.reg [om 27 (.t 4) [4],oq 28 (.bin .add (.t 27) (.c (.int .i64 30))) [27],om 29 (.t 6) [6],oq 30 (.bin .sub (.t 28)
  (.t 29)) [28,29],om 31 (.t 7) [7],oq 32 (.bin .sub (.t 30) (.t 31)) [30,31],om 4 (.t 32) [32]]))))) (.reg [om 10 (.t 5) [5],oq 11 (.bin .add (.t 10) (.c (.int .i64 1))) [10],om 5 (.t 11)
  [11]])))))) (.seq (.reg [om 33 (.t 3) [3],om 34 (.t 4) [],oq 35 (.bin .quo (.t 34) (.c (.int .i64 256))) [34],om 36 (.t 4) [],oq 37 (.bin .quo (.t 36) (.c (.int .i64 16))) [36],oq 38 (.bin .rem (.t 37)
  (.c (.int .i64 16))) [37],om 39 (.t 4) [4],oq 40 (.bin .rem (.t 39) (.c (.int .i64 16))) [39],oq 41 (.bslice 3 1 3 [.int .i64 0,.int .i64 0,.int .i64 0] [(0,1,.t 35),(1,1,.t 38),(2,
 1,.t 40)]) [35,38,40],oq 42 (.app 3 1 8 (.t 33) (.t 41)) [33,41],om 2 (.t 42) [42]]) (.ret)))))⟩
theorem chk100:chkF Tryz.prog 48 sf100=true:=by kernel_rfl

def sf101:SF:=⟨50,[.c 8 (some 16)],.seq (.reg [oq 7 (.box 23 (.t 3)) [3],oq 8 (.new 23 [.int .u8 0,.int .u8 0,.int .u8 0,.int .u8 0,.int .u8 0,.int .u8 0,.int .u8 0,.int .u8 0,.int .u8 0,
 .int .u8 0,.int .u8 0,.int .u8 0,.int .u8 0,.int .u8 0,.int .u8 0,.int .u8 0]) []]) (.seq (.seq (.reg [om 10 (.t 0) [],oq 11 (.bin .lss (.t 10) (.c (.int .i64 0))) [10],om 12 (.t 11)
  [11],og 13 (.mv (.t 0)) 12 false [],og 14 (.bin .gtr (.t 13) (.c (.int .i64 34))) 12 false [13],oq 15 (.pick (.t 12) (.c (.bool true)) (.t 14)) [12,14],om 16 (.t 15) [15],og 17 (.mv (.t 1)
 ) 16 false [],og 18 (.bin .lss (.t 17) (.c (.int .i64 0))) 16 false [17],oq 19 (.pick (.t 16) (.c (.bool true)) (.t 18)) [16,18],om 20 (.t 19) [19],og 21 (.mv (.t 1)) 20 false [],og 22 (.bin .gtr (.t 21)
  (.c (.int .i64 15))) 20 false [21],oq 23 (.pick (.t 20) (.c (.bool true)) (.t 22)) [20,22],om 24 (.t 23) [23],og 25 (.mv (.t 2)) 24 false [],og 26 (.bin .lss (.t 25) (.c (.int .i64 0)
 )) 24 false [25],oq 27 (.pick (.t 24) (.c (.bool true)) (.t 26)) [24,26],om 28 (.t 27) [27],og 29 (.mv (.t 2)) 28 false [],og 30 (.bin .gtr (.t 29) (.c (.int .i64 15))) 28 false [29],
 oq 31 (.pick (.t 28) (.c (.bool true)) (.t 30)) [28,30]]) (.cond (.t 31) (.seq (.reg [oq 32 (.build [.int .u8 0,.int .u8 0,.int .u8 0,.int .u8 0,.int .u8 0,.int .u8 0,.int .u8 0,.int .u8 0,
 .int .u8 0,.int .u8 0,.int .u8 0,.int .u8 0,.int .u8 0,.int .u8 0,.int .u8 0,.int .u8 0] []) [],ov (.store 16 (.t 8) (.t 32)) [32]]) (.ret)) (.skip))) (.seq (.seq (.reg [om 33 (.t 1)
  [1],om 9 (.t 33) [33]]) (.block 0 (.loop (.seq (.seq (.reg [om 34 (.t 9) [],om 35 (.t 2) [],oq 36 (.bin .lss (.t 34) (.t 35)) [34,35]]) (.cond (.t 36) (.skip) (.exit 0))) (.seq (.block 1 (.regD 8 [oh 39 (.mv (.t 0)
 ) [] [] [42,45],oh 40 (.call 27 [.t 39]) [] [0] [42,45],oh 41 (.b2s (.t 40)) [] [0,1] [42,43,44,45,46],oh 42 (.mv (.t 9)) [] [] [39,40,41,45],oh 43 (.call 27 [.t 42]) [] [0,1,3] [41,
 45],oh 44 (.b2s (.t 43)) [] [0,1,3,4] [41,45,46],oh 45 (.load (some 16) (.t 7)) [] [] [39,40,41,42,43,44],oh 46 (.callp 49 [.t 45]) [39,40,42,43,45] [0,1,3,4,6] [41,44],oh 47 (.bslice 9 1 3 [.str [],
 .str [],.str []] [(0,1,.t 41),(1,1,.t 44),(2,1,.t 46)]) [41,44,46] [0,1,2,3,4,5,6,7] [],oh 48 (.call 32 [.c (.int .i64 4),.t 47]) [47] [0,1,2,3,4,5,6,7,8] [],⟨none,.store 16 (.t 7) (.t 48)
 ,none,[48],[0,1,2,3,4,5,6,7,8,9],[]⟩])) (.reg [om 37 (.t 9) [9],oq 38 (.bin .add (.t 37) (.c (.int .i64 1))) [37],om 9 (.t 38) [38]])))))) (.seq (.reg [oq 49 (.load (some 16) (.t 7)
 ) [7],ov (.store 16 (.t 8) (.t 49)) [49]]) (.ret))))⟩
theorem chk101:chkF Tryz.prog 50 sf101=true:=by kernel_rfl

def sf102:SF:=⟨15,[.c 2 (some 16)],.seq (.reg [oq 2 (.new 23 [.int .u8 0,.int .u8 0,.int .u8 0,.int .u8 0,.int .u8 0,.int .u8 0,.int .u8 0,.int .u8 0,.int .u8 0,.int .u8 0,.int .u8 0,
 .int .u8 0,.int .u8 0,.int .u8 0,.int .u8 0,.int .u8 0]) []]) (.seq (.reg [oq 3 (.new 23 [.int .u8 0,.int .u8 0,.int .u8 0,.int .u8 0,.int .u8 0,.int .u8 0,.int .u8 0,.int .u8 0,.int .u8 0,
 .int .u8 0,.int .u8 0,.int .u8 0,.int .u8 0,.int .u8 0,.int .u8 0,.int .u8 0]) []]) (.seq (.seq (.reg [om 4 (.c (.int .i64 0)) []]) (.block 0 (.loop (.seq (.seq (.reg [om 5 (.t 4) [],
 oq 6 (.bin .lss (.t 5) (.c (.int .i64 16))) [5]]) (.cond (.t 6) (.skip) (.exit 0))) (.seq (.block 1 (.reg [om 9 (.t 4) [],om 10 (.t 0) [],om 11 (.t 4) [],oq 12 (.idxT (.t 10) (.t 11)
 ) [10,11],oq 13 (.idxA (.t 3) (.t 9) 16 1) [9],ov (.store 1 (.t 13) (.t 12)) [12,13]])) (.reg [om 7 (.t 4) [4],oq 8 (.bin .add (.t 7) (.c (.int .i64 1))) [7],om 4 (.t 8) [8]])))))) (.seq (.reg [oq 14 (.load (some 16)
  (.t 3)) [3],ov (.store 16 (.t 2) (.t 14)) [14]]) (.ret))))⟩
theorem chk102:chkF Tryz.prog 73 sf102=true:=by kernel_rfl

def sf103:SF:=⟨12,[.t 2],.seq (.reg [om 2 (.c (.int .i64 0)) [2]]) (.seq (.reg [om 3 (.c (.int .i64 1)) []]) (.seq (.block 0 (.loop (.seq (.seq (.reg [om 4 (.t 3) [],om 5 (.t 0)
  [],om 6 (.t 3) [],oq 7 (.bin .sub (.t 5) (.t 6)) [5,6],oq 8 (.bin .lss (.t 4) (.t 7)) [4,7]]) (.cond (.t 8) (.skip) (.exit 0))) (.block 1 (.reg [om 9 (.t 3) [3],oq 10 (.bin .mul (.c (.int .i64 2)
 ) (.t 9)) [9],om 3 (.t 10) [10]]))))) (.seq (.reg [om 11 (.t 3) [3],om 2 (.t 11) [11]]) (.ret))))⟩
theorem chk103:chkF Tryz.prog 34 sf103=true:=by kernel_rfl

def sf104:SF:=⟨17,[.t 4],.seq (.reg [om 4 (.c (.int .u32 0)) [4]]) (.seq (.reg [om 6 (.t 1) [1],oq 7 (.conv .u64 (.t 6)) [6],oq 8 (.bin .and (.t 7) (.c (.int .u64 31))) [7],om 5 (.t 8)
  [8]]) (.seq (.reg [om 9 (.t 0) [],om 10 (.t 5) [],oq 11 (.bin .shl (.t 9) (.t 10)) [9,10],om 12 (.t 0) [0],om 13 (.t 5) [5],oq 14 (.bin .sub (.c (.int .u64 32)) (.t 13)) [13],oq 15 (.bin .shr (.t 12)
  (.t 14)) [12,14],oq 16 (.bin .or (.t 11) (.t 15)) [11,15],om 4 (.t 16) [16]]) (.ret)))⟩
theorem chk104:chkF Tryz.prog 110 sf104=true:=by kernel_rfl

end Go.Proofs.YtkfbkooobfepeaaGreatDoor.Sf

/- SHA-256 of package hash: the rotations. -/
namespace Go.Proofs.YtkfbkooobfepeaaGreatDoor
open Go Go.Sx Sf
set_option maxRecDepth 100000
set_option linter.unusedSimpArgs false
set_option linter.unusedVariables false
variable {tS:List (Nat × List SV)}
def tab0:Tab:=⟨[],[]⟩
theorem tab0_ok:TabX Tryz.prog tS tab0:=⟨fun x h=>by simp [tab0] at h,fun x h=>by simp [tab0] at h⟩

theorem rot_amt {r:Nat} (h1:1≤r) (h2:r≤31):bitop .and .u64 (IntKind.u64.wrap (-(r:Int))) 31=((32 - r:Nat):Int) ∧
    IntKind.u64.wrap (32 - ((32 - r:Nat):Int))=(r:Int):=by
  have:∀ r:Fin 32,1≤r.val→bitop .and .u64 (IntKind.u64.wrap (-(r.val:Int))) 31=((32 - r.val:Nat):Int)∧IntKind.u64.wrap (32 - ((32 - r.val:Nat):Int))=(r.val:Int):=by decide
  exact this ⟨r,by omega⟩ h1

def rotI (n:Int) (r:Nat):Int:=bitop .or .u32 (IntKind.u32.wrap (n * 2 ^ (min (32 - r) IntKind.u32.bits))) (n.fdiv (2 ^ (min r IntKind.u32.bits)))
theorem f104 (n:Int) (r:Nat) (h1:1≤r) (h2:r≤31):Fun Tryz.prog tS 110 [.int .u32 n,.int .i64 (-(r:Int))] [] 0 (.int .u32 (rotI n r)) [] 0:=by
  refine fun_pure none (callX tab0) (callX_ok tab0_ok) chk104 (show 2≤17 by decide) (fun _=>rfl) ?_
  unfold sf104 om oq
  obtain ⟨e1,e2⟩:=rot_amt h1 h2
  have e3:(0:Int)≤((32 - r:Nat):Int):=by omega
  have e4:(0:Int)≤(r:Int):=by omega
  have t1:((32 - r:Nat):Int).toNat=32 - r:=by omega
  have t2:((r:Nat):Int).toNat=r:=by omega
  simp (config:={ maxSteps:=1000000 }) only [e1,e2,e3,e4,t1,t2,rotI,tab0,Int.reduceGE,Int.reduceGT,undef,Int.reduceBNe,Int.reduceBEq,Nat.reduceBNe,Nat.reduceBEq,eqPat,eqTag,reduceCtorEq,Nat.reduceEqDiff,Nat.reduceAdd,Nat.reduceSub,Nat.reduceMul,Nat.reduceDiv,Nat.reduceLeDiff,Nat.reduceLT,Int.reduceToNat,Int.reduceLT,Int.reduceLE,Int.reduceAdd,Int.reduceSub,Int.reduceMul,Int.reduceNeg,Int.reduceEq,Int.reduceNe,evW,baseD,stBlk,touch,clear,untouched,updsW,↓reduceIte,evA,upd,splice,keysOf,kvOf,BC,↓PC]

def gRot:List SV→Option SV
  | [.int .u32 n,.int .i64 (.negSucc k)]=>if k+1≤31 then some (.int .u32 (rotI n (k+1))) else none
  | _=>none
theorem g104 {n:Int} {r:Nat} (h1:1≤r) (h2:r≤31):gRot [.int .u32 n,.int .i64 (-(r:Int))]=some (.int .u32 (rotI n r)):=by
  obtain ⟨k,rfl⟩:∃ k,r=k+1:=⟨r - 1,by omega⟩
  show gRot [.int .u32 n,.int .i64 (.negSucc k)]=_
  simp only [gRot]
  rw [if_pos h2]
def tab1:Tab:=⟨[(110,gRot)],[]⟩
theorem tab1_ok:TabX Tryz.prog tS tab1:=by
  refine ⟨fun x h args r hr=>?_,fun x h=>by simp [tab1] at h⟩
  simp only [tab1,List.mem_singleton] at h
  subst h
  simp only at hr
  unfold gRot at hr
  split at hr
  · rename_i n k
    split at hr
    · rename_i hc
      cases hr
      exact ⟨f104 n (k+1) (by omega) hc,fun η=>by simp only [SV.renL,SV.ren],fun η=>by simp only [SV.renL,SV.ren]⟩
    · cases hr
  · cases hr

def mixI (n:Int) (i j k:Nat):Int:=bitop .xor .u32 (bitop .xor .u32 (rotI n i) (rotI n j)) (rotI n k)
theorem f87 (n:Int) (i j k:Nat) (hi:1≤i∧i≤31) (hj:1≤j∧j≤31) (hk:1≤k∧k≤31) :
    Fun Tryz.prog tS 106 [.int .u32 n,.int .i64 (i:Int),.int .i64 (j:Int),.int .i64 (k:Int)] [] 0 (.int .u32 (mixI n i j k)) [] 0:=by
  refine fun_pure none (callX tab1) (callX_ok tab1_ok) chk87 (show 4≤23 by decide) (fun _=>rfl) ?_
  unfold sf87 om oq
  have G1:=@g104 n i hi.1 hi.2
  have G2:=@g104 n j hj.1 hj.2
  have G3:=@g104 n k hk.1 hk.2
  have w1:IntKind.i64.wrap (0 - (i:Int))=-(i:Int):=by rw [wrap64 (by omega) (by omega)];omega
  have w2:IntKind.i64.wrap (0 - (j:Int))=-(j:Int):=by rw [wrap64 (by omega) (by omega)];omega
  have w3:IntKind.i64.wrap (0 - (k:Int))=-(k:Int):=by rw [wrap64 (by omega) (by omega)];omega
  simp (config:={ maxSteps:=1000000 }) only [w1,w2,w3,↓G1,↓G2,↓G3,mixI,tab1,Int.reduceGE,Int.reduceGT,undef,Int.reduceBNe,Int.reduceBEq,Nat.reduceBNe,Nat.reduceBEq,eqPat,eqTag,reduceCtorEq,Nat.reduceEqDiff,Nat.reduceAdd,Nat.reduceSub,Nat.reduceMul,Nat.reduceDiv,Nat.reduceLeDiff,Nat.reduceLT,Int.reduceToNat,Int.reduceLT,Int.reduceLE,Int.reduceAdd,Int.reduceSub,Int.reduceMul,Int.reduceNeg,Int.reduceEq,Int.reduceNe,evW,baseD,stBlk,touch,clear,untouched,updsW,↓reduceIte,evA,upd,splice,keysOf,kvOf,BC,↓PC]
end Go.Proofs.YtkfbkooobfepeaaGreatDoor

/- SHA-256 of package hash: the schedule. -/
namespace Go.Proofs.YtkfbkooobfepeaaGreatDoor
open Go Go.Sx Sf
set_option maxRecDepth 100000
set_option linter.unusedVariables false
variable {tS:List (Nat × List SV)}
def u8 (n:Int):SV:=.int .u8 n
def addI (a b:Int):Int:=IntKind.u32.wrap (a+b)
def shrI (n:Int) (r:Nat):Int:=n.fdiv (2 ^ (min r IntKind.u32.bits))
def pushB (w c:Int):Int:=bitop .or .u32 (IntKind.u32.wrap (w * 2 ^ (min 8 IntKind.u32.bits))) (IntKind.u32.wrap c)
def be4 (b:List Int) (t:Nat):Int:=pushB (pushB (pushB (pushB 0 (b.getD (4 * t) 0)) (b.getD (4 * t+1) 0)) (b.getD (4 * t+2) 0)) (b.getD (4 * t+3) 0)
def sig0 (p:Int):Int:=bitop .xor .u32 (bitop .xor .u32 (rotI p 7) (rotI p 18)) (shrI p 3)
def sig1 (q:Int):Int:=bitop .xor .u32 (bitop .xor .u32 (rotI q 17) (rotI q 19)) (shrI q 10)
def nxt (b l:List Int) (t:Nat):Int:=
  if t < 16 then be4 b t else addI (addI (addI (l.getD (t - 16) 0) (sig0 (l.getD (t - 15) 0))) (l.getD (t - 7) 0)) (sig1 (l.getD (t - 2) 0))
def schI (b:List Int):Nat→List Int
  | 0=>[]
  | t+1=>schI b t++[nxt b (schI b t) t]
theorem schI_len (b:List Int):∀ t,(schI b t).length=t
  | 0=>rfl
  | t+1=>by simp [schI,schI_len b t]
def cW (b:List Int) (t:Nat):List SV:=(schI b t).map u32++List.replicate (64 - t) (u32 0)
theorem cW_len {b:List Int} {t:Nat} (h:t≤64):(cW b t).length=64:=by simp [cW,schI_len];omega
theorem cW_get {b:List Int} {t j:Nat} (h:j < t):(cW b t)[j]?=some (u32 ((schI b t).getD j 0)):=by
  unfold cW
  rw [List.getElem?_append_left (by simp [schI_len,h])]
  simp [List.getD_eq_getElem?_getD,schI_len,h]
theorem cW_new {b:List Int} {t:Nat} (h:t < 64):(cW b t)[t]?=some (u32 0):=by
  unfold cW
  rw [List.getElem?_append_right (by simp [schI_len]),List.getElem?_replicate,if_pos (by simp only [List.length_map,schI_len];omega)]
def cM (b:List Int) (t:Nat) (v:SV):List SV:=(schI b t).map u32++v :: List.replicate (63 - t) (u32 0)
theorem cW_put {b:List Int} {t:Nat} (h:t < 64) (v:SV):splice (cW b t) t [v]=cM b t v:=by
  unfold splice cW cM
  have e:64 - t=(63 - t)+1:=by omega
  rw [List.take_left' (by simp [schI_len]),e,List.replicate_succ]
  simp [List.drop_append,schI_len]
theorem cM_len {b:List Int} {t:Nat} (h:t < 64) (v:SV):(cM b t v).length=64:=by simp [cM,schI_len];omega
theorem cM_get {b:List Int} {t:Nat} (v:SV):(cM b t v)[t]?=some v:=by
  unfold cM
  rw [List.getElem?_append_right (by simp [schI_len])]
  simp [schI_len]
theorem cM_put {b:List Int} {t:Nat} (v v':SV):splice (cM b t v) t [v']=cM b t v':=by
  unfold splice cM
  rw [List.take_left' (by simp [schI_len])]
  simp [List.drop_append,schI_len]
theorem cM_step {b:List Int} {t:Nat}:cM b t (.int .u32 (nxt b (schI b t) t))=cW b (t+1):=by
  unfold cM cW
  simp only [schI,List.map_append,List.append_assoc,BB]
  rw [show 64 - (t+1)=63 - t by omega];rfl
theorem cW_ren (η:Nat→Nat × Nat) (b:List Int) (t:Nat):SV.renL η (cW b t)=cW b t:=by
  rw [SV.renL_eq]
  unfold cW
  simp [u32,SV.ren]
theorem cM_ren (η:Nat→Nat × Nat) (b:List Int) (t:Nat) (n:Int):SV.renL η (cM b t (.int .u32 n))=cM b t (.int .u32 n):=by
  rw [SV.renL_eq]
  unfold cM
  simp [u32,SV.ren]
theorem u8_ren (η:Nat→Nat × Nat) (b:List Int):SV.renL η (b.map u8)=b.map u8:=by
  rw [SV.renL_eq]
  simp [u8,SV.ren]
def z64:List SV:=List.replicate 64 (.int .u32 0)
theorem z64_ren (η:Nat→Nat × Nat):SV.renL η z64=z64:=by
  rw [SV.renL_eq]
  unfold z64
  rw [List.map_replicate];rfl
theorem cW_all (b:List Int):cW b 64=(schI b 64).map u32:=by simp [cW]
theorem ren_u32 (η:Nat→Nat × Nat) (l:List Int):(SV.agg (l.map u32)).ren η=SV.agg (l.map u32):=by
  simp only [SV.ren,SV.renL_eq,List.map_map]
  congr 1
theorem f86 (b:List Int) (hb:b.length=64) (cap:Option Nat) (hcap:CapOk cap 64):Fun Tryz.prog tS 105 [.slc 0 0 1 64 cap] [(0,⟨.view,b.map u8⟩)] 1 (.agg ((schI b 64).map u32)) [] 1:=by
  refine fun_val none (callX tab1) (callX_ok tab1_ok) chk86 (show 1≤79 by decide) (fun η=>ren_u32 η _) ?_
  unfold sf86 oh om oq ov
  simp (config:={ maxSteps:=1000000 }) only [tab1,reduceCtorEq,Nat.reduceEqDiff,Nat.reduceAdd,Int.reduceNeg,↓reduceIte,BC,↓PC]
  rw [den_loop]
  have hW:=fun η t=>cW_ren η b t
  have hM:=fun η t n=>cM_ren η b t n
  have hB:=fun η=>u8_ren η b
  have hz:=fun η=>z64_ren η
  refine den_inv (callX_ok tab1_ok) (σ:=Nat) (fun t=>[(11,.int .i64 (t:Int)),(3,.ptr 2 0),(2,.ptr 1 0),(0,.slc 0 0 1 64 cap)])
    (fun t=>[(2,⟨.own 154,cW b t⟩),(1,⟨.own 154,z64⟩),(0,⟨.view,b.map u8⟩)]) (fun _=>3) (fun t=>t≤64) (fun t=>64 - t) 0 ?_ (Nat.zero_le _) ?_
  · exact ⟨[(0,0),(1,0),(2,0)],by simp only [hW,hB,hz,Nat.reduceAdd,Nat.reduceSub,Nat.reduceLT,Nat.reduceLeDiff,↓reduceIte,reduceCtorEq,BC];trivial,by simp [Nat.reduceAdd,Nat.reduceEqDiff,Nat.reduceLT,Nat.reduceLeDiff,↓reduceIte,reduceCtorEq,BC]⟩
  · intro t ht
    by_cases h64:t < 64
    · have i1:(t:Int) < 64:=by omega
      have i0:(0:Int)≤(t:Int):=by omega
      have wt:IntKind.i64.wrap ((t:Int)+1)=((t+1:Nat):Int):=by rw [wrap64 (by omega) (by omega)];omega
      by_cases h16:t < 16
      · have i2:(t:Int) < 16:=by omega
        have w1:IntKind.i64.wrap (4 * (t:Int))=((4 * t:Nat):Int):=by rw [wrap64 (by omega) (by omega)];omega
        have w2:IntKind.i64.wrap (((4 * t:Nat):Int)+4)=((4 * t+4:Nat):Int):=by rw [wrap64 (by omega) (by omega)];omega
        have k0:4 * t+4≤64:=by omega
        have hlen:(b.map u8).length=64:=by simp [hb]
        have v1:(0:Int)≤((4 * t:Nat):Int):=by omega
        have v2:((4 * t:Nat):Int)≤((4 * t+4:Nat):Int):=by omega
        have v3:((4 * t+4:Nat):Int)≤64:=by omega
        have v4:4 * t+4 - 4 * t=4:=by omega
        simp (config:={ maxSteps:=1000000 }) only [i1,i2,w1,w2,v1,v2,v3,v4,hlen,reduceCtorEq,Nat.reduceEqDiff,Nat.reduceLeDiff,Int.reduceNeg,↓reduceIte,BC,↓PC]
        refine ⟨by cases cap with
          | none=>trivial
          | some c=>exact hcap c rfl,?_⟩
        rw [den_loop]
        refine den_unroll (callX_ok tab1_ok) (callT_point _ _) 5 ?_
        have hj:∀ j,4 * t+j < 64→(b.map u8)[4 * t+j]?=some (u8 (b.getD (4 * t+j) 0)):=by
          intro j hj
          simp [List.getD_eq_getElem?_getD,show 4 * t+j < b.length by omega]
        have h0:=hj 0 (by omega)
        rw [Nat.add_zero] at h0
        have h1:=hj 1 (by omega)
        have h2:=hj 2 (by omega)
        have h3:=hj 3 (by omega)
        have lt1:∀ j,j < 4→4 * t+j < 64:=by omega
        simp (config:={ maxSteps:=1000000 }) only [h0,h1,h2,h3,hlen,i1,i0,cW_len ht,cM_len h64,cW_new h64,cW_put h64,cM_get,cM_put,wt,u8,u32,reduceCtorEq,Nat.reduceEqDiff,Nat.reduceLeDiff,Int.reduceToNat,Int.reduceLT,Int.reduceLE,Int.reduceAdd,Int.reduceNeg,↓reduceIte,upd,BC,↓PC]
        refine ⟨by omega,by omega,by omega,by omega,by omega,by omega,by omega,by omega,t+1,⟨[(0,0),(1,0),(2,0)],?_,by simp [Nat.reduceAdd,Nat.reduceEqDiff,Nat.reduceLT,Nat.reduceLeDiff,↓reduceIte,reduceCtorEq,BC]⟩,by omega,by omega⟩
        rw [← cM_step (b:=b) (t:=t),show nxt b (schI b t) t=be4 b t from if_pos h16]
        unfold be4 pushB
        simp only [hM,hB,hz,Nat.reduceAdd,Nat.reduceSub,Nat.reduceLT,Nat.reduceLeDiff,↓reduceIte,reduceCtorEq,BC]
      · have i2:¬ (t:Int) < 16:=by omega
        have a1:IntKind.i64.wrap ((t:Int) - 15)=((t - 15:Nat):Int):=by rw [wrap64 (by omega) (by omega)];omega
        have a2:IntKind.i64.wrap ((t:Int) - 2)=((t - 2:Nat):Int):=by rw [wrap64 (by omega) (by omega)];omega
        have a3:IntKind.i64.wrap ((t:Int) - 16)=((t - 16:Nat):Int):=by rw [wrap64 (by omega) (by omega)];omega
        have a4:IntKind.i64.wrap ((t:Int) - 7)=((t - 7:Nat):Int):=by rw [wrap64 (by omega) (by omega)];omega
        have b1:(0:Int)≤((t - 15:Nat):Int)∧((t - 15:Nat):Int) < 64:=by omega
        have b2:(0:Int)≤((t - 2:Nat):Int)∧((t - 2:Nat):Int) < 64:=by omega
        have b3:(0:Int)≤((t - 16:Nat):Int)∧((t - 16:Nat):Int) < 64:=by omega
        have b4:(0:Int)≤((t - 7:Nat):Int)∧((t - 7:Nat):Int) < 64:=by omega
        have c1:(cW b t)[t - 15]?=_:=cW_get (by omega)
        have c2:(cW b t)[t - 2]?=_:=cW_get (by omega)
        have c3:(cW b t)[t - 16]?=_:=cW_get (by omega)
        have c4:(cW b t)[t - 7]?=_:=cW_get (by omega)
        have g7:∀ n,gRot [.int .u32 n,.int .i64 (-7)]=some (.int .u32 (rotI n 7)):=fun n=>g104 (r:=7) (by decide) (by decide)
        have g18:∀ n,gRot [.int .u32 n,.int .i64 (-18)]=some (.int .u32 (rotI n 18)):=fun n=>g104 (r:=18) (by decide) (by decide)
        have g17:∀ n,gRot [.int .u32 n,.int .i64 (-17)]=some (.int .u32 (rotI n 17)):=fun n=>g104 (r:=17) (by decide) (by decide)
        have g19:∀ n,gRot [.int .u32 n,.int .i64 (-19)]=some (.int .u32 (rotI n 19)):=fun n=>g104 (r:=19) (by decide) (by decide)
        simp (config:={ maxSteps:=1000000 }) only [i1,i2,i0,a1,a2,a3,a4,b1.1,b2.1,b3.1,b4.1,b1.2,b2.2,b3.2,b4.2,c1,c2,c3,c4,↓g7,↓g18,↓g17,↓g19,cW_len ht,cW_put h64,wt,u32,reduceCtorEq,Nat.reduceEqDiff,Nat.reduceLeDiff,Int.reduceToNat,Int.reduceLE,Int.reduceNeg,↓reduceIte,upd,BC,↓PC]
        refine ⟨by omega,t+1,⟨[(0,0),(1,0),(2,0)],?_,by simp [Nat.reduceAdd,Nat.reduceEqDiff,Nat.reduceLT,Nat.reduceLeDiff,↓reduceIte,reduceCtorEq,BC]⟩,by omega,by omega⟩
        rw [← cM_step (b:=b) (t:=t),show nxt b (schI b t) t=_ from if_neg h16]
        unfold addI sig0 sig1 shrI
        simp only [hM,hB,hz,Nat.reduceAdd,Nat.reduceSub,Nat.reduceLT,Nat.reduceLeDiff,↓reduceIte,reduceCtorEq,BC]
    · obtain rfl:t=64:=by omega
      simp (config:={ maxSteps:=1000000 }) only [reduceCtorEq,Nat.reduceEqDiff,Int.reduceLT,Int.reduceNeg,↓reduceIte,upd,splice,BC,↓PC]
      have hl:=cW_len (b:=b) (Nat.le_refl 64)
      have hz:z64.length=64:=by simp [z64]
      have hd:List.drop 64 z64=[]:=List.drop_of_length_le (by omega)
      rw [List.take_of_length_le (by omega:(cW b 64).length≤64),hl,hd,List.append_nil,hl,hz,List.take_of_length_le (by omega:(cW b 64).length≤64),cW_all]
      exact ⟨Nat.le_refl _,rfl,Nat.le_refl _,Nat.le_refl _,rfl⟩
end Go.Proofs.YtkfbkooobfepeaaGreatDoor

/- SHA-256 of package hash: a block. -/
namespace Go.Proofs.YtkfbkooobfepeaaGreatDoor
open Go Go.Sx Sf
set_option maxRecDepth 100000
set_option linter.unusedSimpArgs false
set_option linter.unusedVariables false
variable {tS:List (Nat × List SV)}
def unI8:List SV→Option (List Int)
  | []=>some []
  | .int .u8 n :: l=>match unI8 l with
    | some r=>some (n :: r)
    | none=>none
  | _=>none
theorem unI8_map:∀ b:List Int,unI8 (b.map u8)=some b
  | []=>rfl
  | n :: b=>by simp only [List.map_cons,u8,unI8];rw [show List.map u8 b=b.map u8 from rfl,unI8_map b]
theorem unI8_some:∀ {l:List SV} {b:List Int},unI8 l=some b→l=b.map u8
  | [],b,h=>by simp only [unI8] at h;cases h;rfl
  | x :: l,b,h=>by
    unfold unI8 at h
    split at h
    · rename_i he;cases he
    · rename_i n l' he
      cases he
      split at h
      · rename_i r hr;cases h;rw [unI8_some hr];rfl
      · cases h
    · cases h
def gSch:GS
  | [.slc 0 0 1 64 cap],[(0,⟨.view,cells⟩)]=>match unI8 cells with
    | some b=>match Nat.beq b.length 64,capB cap 64 with
      | true,true=>some (.agg ((schI b 64).map u32),[],1)
      | _,_=>none
    | none=>none
  | _,_=>none
theorem gSch_ok:FunS Tryz.prog tS 105 gSch:=by
  intro a0 m0 r m1 n1 h
  unfold gSch at h
  split at h
  · rename_i cap cells
    split at h
    · rename_i b hb
      split at h
      · rename_i h1 h2
        cases h
        rw [unI8_some hb]
        exact ⟨f86 b (Nat.eq_of_beq_eq_true h1) cap (capB_ok h2),by simp [freshB]⟩
      · cases h
    · cases h
  · cases h
end Go.Proofs.YtkfbkooobfepeaaGreatDoor

/- SHA-256 of package hash: the compression of a block. -/
namespace Go.Proofs.YtkfbkooobfepeaaGreatDoor
open Go Go.Sx Sf
set_option maxRecDepth 100000
set_option linter.unusedSimpArgs false
set_option linter.unusedVariables false
variable {tS:List (Nat × List SV)}
def andI (a b:Int):Int:=bitop .and .u32 a b
def xorI (a b:Int):Int:=bitop .xor .u32 a b
def notI (a:Int):Int:=bitop .xor .u32 (if IntKind.u32.signed then -1 else IntKind.u32.max) a
structure V8 where
  a:Int
  b:Int
  c:Int
  d:Int
  e:Int
  f:Int
  g:Int
  h:Int
def V8.round (s:V8) (w k:Int):V8:=
  let x:=addI (addI (addI (addI s.h (mixI s.e 6 11 25)) (xorI (andI s.e s.f) (andI (notI s.e) s.g))) k) w
  let y:=addI (mixI s.a 2 13 22) (xorI (xorI (andI s.a s.b) (andI s.a s.c)) (andI s.b s.c))
  ⟨addI x y,s.a,s.b,s.c,addI s.d x,s.e,s.f,s.g⟩
def V8.rounds (w:List Int) (s:V8):Nat→V8
  | 0=>s
  | t+1=>(V8.rounds w s t).round (w.getD t 0) (kc.getD t 0)
def V8.l (s:V8):List Int:=[s.a,s.b,s.c,s.d,s.e,s.f,s.g,s.h]
def V8.add (s v:V8):V8:=⟨addI s.a v.a,addI s.b v.b,addI s.c v.c,addI s.d v.d,addI s.e v.e,addI s.f v.f,addI s.g v.g,addI s.h v.h⟩
def comp (s:V8) (b:List Int):V8:=s.add (V8.rounds (schI b 64) s 64)
def gMix:List SV→Option SV
  | [.int .u32 n,.int .i64 (.ofNat i),.int .i64 (.ofNat j),.int .i64 (.ofNat k)]=>if (1≤i∧i≤31)∧(1≤j∧j≤31)∧(1≤k∧k≤31) then some (.int .u32 (mixI n i j k)) else none
  | _=>none
def tab2:Tab:=⟨[(110,gRot),(106,gMix)],[]⟩
theorem tab2_ok:TabX Tryz.prog tS tab2:=by
  refine ⟨fun x h args r hr=>?_,fun x h=>by simp [tab2] at h⟩
  simp only [tab2,List.mem_cons,List.not_mem_nil,or_false] at h
  rcases h with rfl | rfl
  · exact tab1_ok.p _ (by simp [tab1]) args r hr
  · simp only at hr
    unfold gMix at hr
    split at hr
    · split at hr
      · rename_i hc
        cases hr
        exact ⟨f87 _ _ _ _ hc.1 hc.2.1 hc.2.2,fun η=>by simp only [SV.renL,SV.ren],fun η=>by simp only [SV.renL,SV.ren]⟩
      · cases hr
    · cases hr
def callH:CallT:=callS [(105,gSch)] (callX tab2)
theorem callH_ok:∀ f a m n K,callH f a m n K→callT Tryz.prog tS f a m n K:=
  callS_ok (fun x h=>by simp only [List.mem_singleton] at h;subst h;exact gSch_ok) (callX_ok tab2_ok)
end Go.Proofs.YtkfbkooobfepeaaGreatDoor

/- SHA-256 of package hash: compress. -/
namespace Go.Proofs.YtkfbkooobfepeaaGreatDoor
open Go Go.Sx Sf
set_option maxRecDepth 100000
set_option linter.unusedVariables false
theorem unI8_len {b:List Int} (hb:b.length=64):Nat.beq b.length 64=true:=by rw [hb];rfl
theorem flat_u8:∀ b:List Int,SV.flatL (b.map u8)=true
  | []=>rfl
  | n :: b=>by simp only [List.map_cons,SV.flatL,u8,SV.flat,Bool.true_and];exact flat_u8 b
def z8:List SV:=[.int .u32 0,.int .u32 0,.int .u32 0,.int .u32 0,.int .u32 0,.int .u32 0,.int .u32 0,.int .u32 0]
theorem ren_w (η:Nat→Nat × Nat) (l:List Int):SV.renL η (l.map u32)=l.map u32:=by
  simp only [SV.renL_eq,List.map_map]
  congr 1
theorem look0:lookT tH 1=some (kc.map u32):=(rfl)
theorem kc_len:(kc.map u32).length=64:=(rfl)
theorem kc_take:List.take 64 (kc.map u32)=kc.map u32:=(rfl)
set_option maxHeartbeats 4000000 in
theorem f73 (s:V8) (b:List Int) (hb:b.length=64) (cap:Option Nat) (hcap:CapOk cap 64) :
    Fun Tryz.prog tH 90 [.agg (s.l.map u32),.slc 0 0 1 64 cap] [(0,⟨.view,b.map u8⟩)] 1 (.agg ((comp s b).l.map u32)) [] 1:=by
  refine fun_val none callH callH_ok chk73 (show 2≤116 by decide) (fun η=>ren_u32 η _) ?_
  unfold sf73 oh om oq ov
  obtain ⟨a0,a1,a2,a3,a4,a5,a6,a7⟩:=s
  have hlen:(b.map u8).length=64:=by simp [hb]
  have hfl:=flat_u8 b
  have htk:List.take 64 (b.map u8)=b.map u8:=List.take_of_length_le (by omega)
  have hl64:=unI8_len hb
  have hcb:capB cap 64=true:=by
    cases cap with
    | none=>rfl
    | some c=>exact Nat.ble_eq_true_of_le (hcap c rfl)
  have hw:=fun η l=>ren_w η l
  have hsl:(List.map u32 (schI b 64)).length=64:=by simp [schI_len]
  have hst:List.take 64 (List.map u32 (schI b 64))=List.map u32 (schI b 64):=List.take_of_length_le (by omega)
  have rW:∀ η,SV.renL η (List.map u32 (schI b 64))=List.map u32 (schI b 64):=fun η=>ren_w η _
  have rK:∀ η,SV.renL η (List.map u32 kc)=List.map u32 kc:=fun η=>ren_w η _
  have rB:∀ η,SV.renL η (List.map u8 b)=List.map u8 b:=fun η=>u8_ren η b
  have ru:∀ η n,(u32 n).ren η=u32 n:=fun _ _=>rfl
  have d64:List.drop 64 (List.replicate 64 (SV.int .u32 0))=[]:=rfl
  generalize hRe:(fun t=>V8.rounds (schI b 64) ⟨a0,a1,a2,a3,a4,a5,a6,a7⟩ t)=R
  have hR0:R 0=⟨a0,a1,a2,a3,a4,a5,a6,a7⟩:=by rw [← hRe];rfl
  generalize hW:List.map u32 (schI b 64)=W at *
  simp (config:={ maxSteps:=1000000 }) only [callH,tab2,gSch,unI8_map,hlen,hfl,htk,hl64,hcb,V8.l,hW,look0,kc_len,kc_take,beq_self_eq_true,and_self,Nat.reduceBEq,lookF,reduceCtorEq,Nat.reduceEqDiff,Nat.reduceAdd,Nat.reduceSub,Nat.reduceLeDiff,Nat.reduceLT,Int.reduceToNat,Int.reduceLE,eq_self,Int.cast_ofNat_Int, true_and,and_true,List.getElem?_cons_zero,List.getElem?_cons_succ,List.length_cons,List.length_nil,List.append_nil,List.nil_append,List.cons_append,List.take_succ_cons,List.take_zero,List.drop_succ_cons,List.drop_zero,List.take_nil,List.drop_nil,List.reverse_cons,List.reverse_nil,List.map_cons,List.map_nil,Nat.zero_add,Nat.add_zero,frOf,den_o0,den_o1,kont_app,den_reg,den_regW,den_W,evW,baseD,stBlk,touch,clear,untouched,updsW,List.contains_cons,List.contains_nil,Bool.or_false,Bool.or_self,Bool.or_true,den_seq,den_block,↓reduceIte,↓e_box,↓e_load,↓e_store,↓e_arrAt,↓e_mv,↓e_new,↓e_slcA,↓e_call,↓u_onOpt0,↓u_onOpt1,Opd.ev,Sx.get,put,putO,del,dels,frD,memD,pickD,kills,views,newer,rd,upd,splice,SV.cells?,SV.one,↓u_callS,canLW,canV,canC,belowL,apH,apH1,SV.ren,newOwn,targets,rms,Kind.isOwn,Nat.sub_zero,Nat.le_refl,Nat.mul_one,Int.cast_ofNat_Int]
  refine ⟨by rw [rW];exact hsl,?_⟩
  rw [rW]
  rw [den_loop]
  refine den_inv callH_ok (σ:=Nat) (fun t=>[(22,.int .i64 (t:Int)),(21,.agg (kc.map u32)),(7,.ptr 5 0),(6,.ptr 4 0),(5,.ptr 3 0),(4,.ptr 2 0),(2,.ptr 1 0)])
    (fun t=>[(5,⟨.own 157,[u32 (R t).e,u32 (R t).f,u32 (R t).g,u32 (R t).h]⟩),(4,⟨.own 157,[u32 (R t).a,u32 (R t).b,u32 (R t).c,u32 (R t).d]⟩),(3,⟨.own 154,W⟩),
      (2,⟨.own 115,z8⟩),(1,⟨.own 115,[u32 a0,u32 a1,u32 a2,u32 a3,u32 a4,u32 a5,u32 a6,u32 a7]⟩),(0,⟨.view,b.map u8⟩)]) (fun _=>6) (fun t=>t≤64) (fun t=>64 - t) 0 ?_ (Nat.zero_le _) ?_
  · refine ⟨[(0,0),(1,0),(2,0),(3,0),(4,0),(5,0)],?_,?_⟩
    · simp only [rW,ru,rB,hR0,hsl,z8,EntM,compat,apartM,keysBelow,eta,idHs,rd,SV.ren,SV.renL,Option.getD_some,List.getElem?_cons_zero,List.getElem?_cons_succ,List.length_cons,List.length_nil,Nat.zero_add,Nat.add_zero,Nat.reduceAdd,Nat.reduceSub,Nat.reduceEqDiff,Nat.reduceLT,Nat.reduceLeDiff,↓reduceIte,Kind.isOwn,List.take_succ_cons,List.take_zero,List.nil_append,and_self,and_true,true_and,exists_eq_left',Option.some.injEq,List.drop_zero,List.take_length,Nat.le_refl,ne_eq,not_false_eq_true,implies_true,List.not_mem_nil,false_imp_iff,Bool.false_or,Bool.true_or,forall_const,reduceCtorEq,List.mem_cons,or_false,forall_eq_or_imp,forall_eq,Nat.succ_ne_self]
      refine (congrArg (W++·) (List.drop_of_length_le ?_)).trans (List.append_nil W)
      exact Nat.le_refl 64
    · simp only [rK,frEnt,geto,eta,SV.ren,Option.getD_some,List.getElem?_cons_zero,List.getElem?_cons_succ,List.length_cons,List.length_nil,Nat.zero_add,Nat.add_zero,Nat.reduceAdd,Nat.reduceSub,Nat.reduceEqDiff,↓reduceIte,and_self,and_true,Option.some.injEq,Nat.succ_ne_self]
      rfl
  · intro t ht
    by_cases h64:t < 64
    · have c1:(t:Int) < 64:=by omega
      have c2:(0:Int)≤(t:Int):=by omega
      have wt:IntKind.i64.wrap ((t:Int)+1)=((t+1:Nat):Int):=by rw [wrap64_eq (by omega) (by omega)];omega
      have gk:(List.map u32 kc)[t]?=some (u32 (kc.getD t 0)):=by
        have:kc.length=64:=rfl
        simp [List.getD_eq_getElem?_getD,show t < kc.length by omega]
      have gw:W[t]?=some (u32 ((schI b 64).getD t 0)):=by
        rw [← hW]
        simp [List.getD_eq_getElem?_getD,schI_len,h64]
      have hR1:R (t+1)=(R t).round ((schI b 64).getD t 0) (kc.getD t 0):=by rw [← hRe];rfl
      generalize hk:kc.getD t 0=k at *
      generalize hwt:(schI b 64).getD t 0=w at *
      rcases hRt:R t with ⟨a,bb,c,d,e,f,g,h⟩
      simp only
      have m1:∀ n,gMix [.int .u32 n,.int .i64 6,.int .i64 11,.int .i64 25]=some (.int .u32 (mixI n 6 11 25)):=fun n=>rfl
      have m2:∀ n,gMix [.int .u32 n,.int .i64 2,.int .i64 13,.int .i64 22]=some (.int .u32 (mixI n 2 13 22)):=fun n=>rfl
      simp (config:={ maxSteps:=1000000 }) only [↓m1,↓m2,c1,c2,gk,gw,wt,u32,SV.flatL,SV.flat,Bool.and_self,↓u_callX,lookF,again_n,reduceCtorEq,Nat.reduceEqDiff,Nat.reduceAdd,Nat.reduceLeDiff,Int.reduceToNat,Int.reduceLT,Int.reduceLE,Int.reduceNeg,eq_self,decide_true,Int.cast_ofNat_Int, true_and,List.getElem?_cons_zero,List.getElem?_cons_succ,List.length_cons,List.length_nil,List.append_nil,List.nil_append,List.cons_append,List.take_succ_cons,List.take_zero,List.drop_succ_cons,List.drop_zero,List.drop_nil,List.map_cons,List.map_nil,Nat.zero_add,Nat.add_zero,den_nil,den_o0,↓gd_tt,den_o1,kont_app,den_skip,den_reg,den_regP,den_seq,den_cond,den_block,den_b,↓reduceIte,↓e_build,↓e_load,↓e_store,↓e_idxV,↓e_mv,↓e_idxA,↓e_bin,↓e_un,↓e_callp,↓u_onInt,↓u_binV,↓binI,↓fillE,Opd.ev,Sx.get,put,putO,del,dels,rd,upd,splice,SV.cells?,SV.one,↓u_callS,Nat.le_refl,Int.toNat_natCast,Nat.mul_one,Int.cast_ofNat_Int]
      rw [hRt] at hR1
      refine ⟨t+1,⟨[(0,0),(1,0),(2,0),(3,0),(4,0),(5,0)],?_,?_⟩,by omega,by omega⟩
      · simp only [hR1,V8.round,addI,xorI,andI,notI,rW,rB,z8,EntM,compat,apartM,keysBelow,eta,idHs,rd,SV.ren,SV.renL,Option.getD_some,List.getElem?_cons_zero,List.getElem?_cons_succ,List.length_cons,List.length_nil,Nat.zero_add,Nat.add_zero,Nat.reduceAdd,Nat.reduceSub,Nat.reduceEqDiff,Nat.reduceLT,Nat.reduceLeDiff,↓reduceIte,Kind.isOwn,List.take_succ_cons,List.take_zero,List.nil_append,and_self,true_and,exists_eq_left',Option.some.injEq,List.drop_zero,List.take_length,Nat.le_refl,ne_eq,not_false_eq_true,implies_true,List.not_mem_nil,false_imp_iff,Bool.false_or,Bool.true_or,forall_const,reduceCtorEq,List.mem_cons,or_false,forall_eq_or_imp,forall_eq,Nat.succ_ne_self]
      · simp only [rK,frEnt,geto,eta,SV.ren,Option.getD_some,List.getElem?_cons_zero,List.getElem?_cons_succ,List.length_cons,List.length_nil,Nat.zero_add,Nat.add_zero,Nat.reduceAdd,Nat.reduceSub,Nat.reduceEqDiff,↓reduceIte,and_self,Nat.succ_ne_self]
    · obtain rfl:t=64:=by omega
      rcases hRt:R 64 with ⟨a,bb,c,d,e,f,g,h⟩
      have hcomp:comp ⟨a0,a1,a2,a3,a4,a5,a6,a7⟩ b=V8.add ⟨a0,a1,a2,a3,a4,a5,a6,a7⟩ ⟨a,bb,c,d,e,f,g,h⟩:=by
        unfold comp;rw [← hRt,← hRe]
      simp only
      simp (config:={ maxSteps:=1000000 }) only [u32,again_x,Nat.reduceEqDiff,Int.reduceLT,eq_self,decide_false,Int.cast_ofNat_Int, true_and,den_nil,den_o0,↓gd_ft,den_o1,kont_app,den_reg,den_seq,den_cond,den_block,den_exit,den_xb,den_xc,↓reduceIte,↓e_mv,↓e_bin,↓u_binV,↓binI,Opd.ev,Sx.get,put,putO,del,dels,Int.cast_ofNat_Int]
      rw [den_loop]
      refine den_unroll callH_ok (callT_point _ _) 5 ?_
      simp (config:={ maxSteps:=1000000 }) only [z8,hcomp,V8.add,addI,and_self,reduceCtorEq,Nat.reduceEqDiff,Nat.reduceAdd,Nat.reduceLeDiff,Int.reduceToNat,Int.reduceLT,Int.reduceLE,Int.reduceAdd,Int.reduceNeg,wrap64,eq_self,decide_true,decide_false,Int.cast_ofNat_Int,List.getElem?_cons_zero,List.getElem?_cons_succ,List.length_cons,List.length_nil,List.append_nil,List.nil_append,List.cons_append,List.take_succ_cons,List.take_zero,List.drop_succ_cons,List.drop_zero,List.take_nil,List.drop_nil,List.map_cons,List.map_nil,Nat.zero_add,Nat.add_zero,den_nil,den_o0,↓gd_tt,↓gd_ft,den_o1,kont_app,den_skip,den_reg,den_regP,den_seq,den_cond,den_block,den_exit,den_ret,den_b,den_xb,den_xc,den_xu,den_u,finP_r,↓reduceIte,↓e_load,↓e_store,↓e_mv,↓e_idxA,↓e_bin,↓u_onInt,↓u_binV,↓binI,↓evRes,Opd.ev,Sx.get,put,putO,del,dels,rd,upd,splice,SV.cells?,SV.one,retOf,Nat.le_refl,Nat.mul_one,Int.cast_ofNat_Int]
end Go.Proofs.YtkfbkooobfepeaaGreatDoor

/- SHA-256 of package hash: compress, as a contract by value. -/
namespace Go.Proofs.YtkfbkooobfepeaaGreatDoor
open Go Go.Sx Sf
set_option maxRecDepth 100000
set_option linter.unusedSimpArgs false
set_option linter.unusedVariables false
def g73:GS
  | [.agg [.int .u32 a,.int .u32 b,.int .u32 c,.int .u32 d,.int .u32 e,.int .u32 f,.int .u32 g,.int .u32 h],.slc 0 0 1 64 cap],[(0,⟨.view,cells⟩)]=>match unI8 cells with
    | some bl=>match Nat.beq bl.length 64,capB cap 64 with
      | true,true=>some (.agg ((comp ⟨a,b,c,d,e,f,g,h⟩ bl).l.map u32),[],1)
      | _,_=>none
    | none=>none
  | _,_=>none
theorem g73_ok:FunS Tryz.prog tH 90 g73:=by
  intro a0 m0 r m1 n1 hh
  unfold g73 at hh
  split at hh
  · rename_i a b c d e f g h cap cells
    split at hh
    · rename_i bl hb
      split at hh
      · rename_i h1 h2
        cases hh
        rw [unI8_some hb]
        exact ⟨f73 ⟨a,b,c,d,e,f,g,h⟩ bl (Nat.eq_of_beq_eq_true h1) cap (capB_ok h2),by simp [freshB]⟩
      · cases hh
    · cases hh
  · cases hh
end Go.Proofs.YtkfbkooobfepeaaGreatDoor
