/- The proof, part Uf: the texts Bnd, Bnw, TabA, SfA, HasA, HasB, HasC, HasD, HasE, HasF, HasP, StrA, RotC, StrB, WirA, WirB, StrC, RotA, RotB, RotD, WirC, WirD, WirE, WirF, PlaA, PlaB, RotE, RotF, ApA, MemA, MemB, MemC. -/
import Derived.Test.YtmhkkalbijbplaaGreatDoorUe
import Derived.Test.YtmhkkalbijbplaaGreatDoorChecked
set_option linter.unusedSimpArgs false
set_option linter.unusedVariables false
/- The lemmas by which a run is carried out, in two bundles. -/
namespace Go.Proofs.YtmhkkalbijbplaaGreatDoor
open Go Go.Sx
theorem BB:type_of% ( And.intro (And.intro (And.intro (And.intro (And.intro (And.intro @Bool.and_true (And.intro @Bool.and_self @Bool.true_and)) (And.intro (And.intro
  @beq_self_eq_true.{0} @Blk.mk.injEq) (And.intro @List.cons.injEq.{0} @SV.int.injEq))) (And.intro (And.intro (And.intro @SV.bool.injEq @SV.tup.injEq) (And.intro
  @SV.agg.injEq @and_self)) (And.intro (And.intro @finO_r @finO_n) (And.intro @finO_x @again_n)))) (And.intro (And.intro (And.intro (And.intro @again_x @again_r)
  (And.intro @wrap64 @decide_true)) (And.intro (And.intro @decide_false @Int.cast_ofNat_Int) (And.intro @true_and @and_true))) (And.intro (And.intro (And.intro
  @false_and @and_false) (And.intro @List.getElem?_cons_zero.{0} @List.getElem?_cons_succ.{0})) (And.intro (And.intro @List.length_cons.{0} @List.length_nil.{0})
  (And.intro @List.append_nil.{0} @List.nil_append.{0}))))) (And.intro (And.intro (And.intro (And.intro @List.cons_append.{0} (And.intro @List.take_succ_cons.{0}
  @List.take_zero.{0})) (And.intro (And.intro @List.drop_succ_cons.{0} @List.drop_zero.{0}) (And.intro @List.take_nil.{0} @List.drop_nil.{0}))) (And.intro
  (And.intro (And.intro @List.reverse_cons.{0} @List.reverse_nil.{0}) (And.intro @List.map_cons.{0,0} @List.map_nil.{0,0})) (And.intro (And.intro @Nat.zero_add
  @Nat.add_zero) (And.intro @den_nil @den_o0)))) (And.intro (And.intro (And.intro (And.intro @gd_any @den_o1) (And.intro @kont_app @den_g)) (And.intro (And.intro
  @Bool.not_true @Bool.not_false) (And.intro @den_skip @den_reg))) (And.intro (And.intro (And.intro @den_regD @den_regP) (And.intro @den_A @den_regW)) (And.intro
  (And.intro @den_W @den_bad) (And.intro @List.all_cons.{0} @List.all_nil.{0})))))) (And.intro (And.intro (And.intro (And.intro (And.intro @List.contains_cons.{0}
  (And.intro @List.contains_nil.{0} @Bool.or_false)) (And.intro (And.intro @Bool.or_self @Bool.false_or) (And.intro @Bool.true_or @Bool.or_true))) (And.intro
  (And.intro (And.intro @den_seq @den_cond) (And.intro @den_block @den_exit)) (And.intro (And.intro @den_ret @den_b) (And.intro @den_xb @den_xo)))) (And.intro
  (And.intro (And.intro (And.intro @den_xc @den_xu) (And.intro @den_rb @den_ro)) (And.intro (And.intro @den_rc @den_ru) (And.intro @den_u @den_loopU))) (And.intro
  (And.intro (And.intro @finP_r @finP_n) (And.intro @finP_x @finE_r)) (And.intro (And.intro @finE_n @finE_x) (And.intro @ren_bytes @byte_ren))))) (And.intro
  (And.intro (And.intro (And.intro (And.intro @ren_ints @flat_ints) (And.intro @len_ints @List.getElem?_nil.{0})) (And.intro (And.intro @Option.getD_none.{0}
  @Option.getD_some.{0}) (And.intro @Nat.sub_zero @not_true_eq_false))) (And.intro (And.intro (And.intro @not_false_eq_true @Nat.le_refl) (And.intro @take_bytes
  @take_ints)) (And.intro (And.intro @nlS_0 @nlS_1) (And.intro @nlM_0 @nlM_1)))) (And.intro (And.intro (And.intro (And.intro @nlN_0 @nlN_1) (And.intro @take_bys1
  @map_byte)) (And.intro (And.intro @len_bytes @flat_bytes) (And.intro @Int.toNat_natCast @Nat.mul_one))) (And.intro (And.intro (And.intro @Option.some.injEq.{0}
  @Kind.own.injEq) (And.intro @List.take_length.{0} @List.not_mem_nil.{0})) (And.intro (And.intro @List.mem_cons.{0} @or_false) (And.intro @Nat.succ_ne_self
  @one_byte))))))):=And.intro (And.intro (And.intro (And.intro (And.intro (And.intro @Bool.and_true (And.intro @Bool.and_self @Bool.true_and)) (And.intro (And.intro
  @beq_self_eq_true.{0} @Blk.mk.injEq) (And.intro @List.cons.injEq.{0} @SV.int.injEq))) (And.intro (And.intro (And.intro @SV.bool.injEq @SV.tup.injEq) (And.intro
  @SV.agg.injEq @and_self)) (And.intro (And.intro @finO_r @finO_n) (And.intro @finO_x @again_n)))) (And.intro (And.intro (And.intro (And.intro @again_x @again_r)
  (And.intro @wrap64 @decide_true)) (And.intro (And.intro @decide_false @Int.cast_ofNat_Int) (And.intro @true_and @and_true))) (And.intro (And.intro (And.intro
  @false_and @and_false) (And.intro @List.getElem?_cons_zero.{0} @List.getElem?_cons_succ.{0})) (And.intro (And.intro @List.length_cons.{0} @List.length_nil.{0})
  (And.intro @List.append_nil.{0} @List.nil_append.{0}))))) (And.intro (And.intro (And.intro (And.intro @List.cons_append.{0} (And.intro @List.take_succ_cons.{0}
  @List.take_zero.{0})) (And.intro (And.intro @List.drop_succ_cons.{0} @List.drop_zero.{0}) (And.intro @List.take_nil.{0} @List.drop_nil.{0}))) (And.intro
  (And.intro (And.intro @List.reverse_cons.{0} @List.reverse_nil.{0}) (And.intro @List.map_cons.{0,0} @List.map_nil.{0,0})) (And.intro (And.intro @Nat.zero_add
  @Nat.add_zero) (And.intro @den_nil @den_o0)))) (And.intro (And.intro (And.intro (And.intro @gd_any @den_o1) (And.intro @kont_app @den_g)) (And.intro (And.intro
  @Bool.not_true @Bool.not_false) (And.intro @den_skip @den_reg))) (And.intro (And.intro (And.intro @den_regD @den_regP) (And.intro @den_A @den_regW)) (And.intro
  (And.intro @den_W @den_bad) (And.intro @List.all_cons.{0} @List.all_nil.{0})))))) (And.intro (And.intro (And.intro (And.intro (And.intro @List.contains_cons.{0}
  (And.intro @List.contains_nil.{0} @Bool.or_false)) (And.intro (And.intro @Bool.or_self @Bool.false_or) (And.intro @Bool.true_or @Bool.or_true))) (And.intro
  (And.intro (And.intro @den_seq @den_cond) (And.intro @den_block @den_exit)) (And.intro (And.intro @den_ret @den_b) (And.intro @den_xb @den_xo)))) (And.intro
  (And.intro (And.intro (And.intro @den_xc @den_xu) (And.intro @den_rb @den_ro)) (And.intro (And.intro @den_rc @den_ru) (And.intro @den_u @den_loopU))) (And.intro
  (And.intro (And.intro @finP_r @finP_n) (And.intro @finP_x @finE_r)) (And.intro (And.intro @finE_n @finE_x) (And.intro @ren_bytes @byte_ren))))) (And.intro
  (And.intro (And.intro (And.intro (And.intro @ren_ints @flat_ints) (And.intro @len_ints @List.getElem?_nil.{0})) (And.intro (And.intro @Option.getD_none.{0}
  @Option.getD_some.{0}) (And.intro @Nat.sub_zero @not_true_eq_false))) (And.intro (And.intro (And.intro @not_false_eq_true @Nat.le_refl) (And.intro @take_bytes
  @take_ints)) (And.intro (And.intro @nlS_0 @nlS_1) (And.intro @nlM_0 @nlM_1)))) (And.intro (And.intro (And.intro (And.intro @nlN_0 @nlN_1) (And.intro @take_bys1
  @map_byte)) (And.intro (And.intro @len_bytes @flat_bytes) (And.intro @Int.toNat_natCast @Nat.mul_one))) (And.intro (And.intro (And.intro @Option.some.injEq.{0}
  @Kind.own.injEq) (And.intro @List.take_length.{0} @List.not_mem_nil.{0})) (And.intro (And.intro @List.mem_cons.{0} @or_false) (And.intro @Nat.succ_ne_self
  @one_byte))))))
theorem PB:type_of% ( And.intro (And.intro (And.intro (And.intro (And.intro (And.intro @u_callAnd @u_callX) (And.intro @gd_tt @gd_ff)) (And.intro (And.intro @gd_tf @gd_ft) (And.intro
  @e_box @e_build))) (And.intro (And.intro (And.intro @e_bslice @e_load) (And.intro @e_store @e_idxS)) (And.intro (And.intro @e_idxV @e_idxT) (And.intro @e_fieldV
  @e_eqv)))) (And.intro (And.intro (And.intro (And.intro @e_isNil @e_b2s) (And.intro @e_slcS @e_arrAt)) (And.intro (And.intro @e_ext @e_app) (And.intro @e_copy
  @e_mv))) (And.intro (And.intro (And.intro @e_pick @e_new) (And.intro @e_nilc @e_fld)) (And.intro (And.intro @e_idxA @e_bin) (And.intro @e_eqb @e_un)))))
  (And.intro (And.intro (And.intro (And.intro (And.intro @e_conv @e_strS) (And.intro @e_s2b @e_mkfn)) (And.intro (And.intro @e_mksl @e_slcA) (And.intro @e_slcT
  @e_call))) (And.intro (And.intro (And.intro @e_callp @e_callv) (And.intro @e_len @e_lenA)) (And.intro (And.intro @e_mx @e_mn) (And.intro @e_mkmap @e_mput))))
  (And.intro (And.intro (And.intro (And.intro @e_mlen @e_mk8) (And.intro @e_capN @e_pcmp)) (And.intro (And.intro @e_cvp @e_noesc) (And.intro @e_sdat @e_ustr)))
  (And.intro (And.intro (And.intro @e_appZ @u_onInt) (And.intro @u_onBool @u_onOpt0)) (And.intro (And.intro @u_onOpt1 @u_binV) (And.intro @u_srcOf (And.intro
  @u_srcSl @u_callS))))))):=And.intro (And.intro (And.intro (And.intro (And.intro (And.intro @u_callAnd @u_callX) (And.intro @gd_tt @gd_ff)) (And.intro (And.intro @gd_tf @gd_ft) (And.intro
  @e_box @e_build))) (And.intro (And.intro (And.intro @e_bslice @e_load) (And.intro @e_store @e_idxS)) (And.intro (And.intro @e_idxV @e_idxT) (And.intro @e_fieldV
  @e_eqv)))) (And.intro (And.intro (And.intro (And.intro @e_isNil @e_b2s) (And.intro @e_slcS @e_arrAt)) (And.intro (And.intro @e_ext @e_app) (And.intro @e_copy
  @e_mv))) (And.intro (And.intro (And.intro @e_pick @e_new) (And.intro @e_nilc @e_fld)) (And.intro (And.intro @e_idxA @e_bin) (And.intro @e_eqb @e_un)))))
  (And.intro (And.intro (And.intro (And.intro (And.intro @e_conv @e_strS) (And.intro @e_s2b @e_mkfn)) (And.intro (And.intro @e_mksl @e_slcA) (And.intro @e_slcT
  @e_call))) (And.intro (And.intro (And.intro @e_callp @e_callv) (And.intro @e_len @e_lenA)) (And.intro (And.intro @e_mx @e_mn) (And.intro @e_mkmap @e_mput))))
  (And.intro (And.intro (And.intro (And.intro @e_mlen @e_mk8) (And.intro @e_capN @e_pcmp)) (And.intro (And.intro @e_cvp @e_noesc) (And.intro @e_sdat @e_ustr)))
  (And.intro (And.intro (And.intro @e_appZ @u_onInt) (And.intro @u_onBool @u_onOpt0)) (And.intro (And.intro @u_onOpt1 @u_binV) (And.intro @u_srcOf (And.intro
  @u_srcSl @u_callS))))))
theorem BC:type_of% (And.intro BB ( And.intro (And.intro (And.intro (And.intro (And.intro (And.intro @SV.flatL.eq_1 (And.intro @SV.flatL.eq_2 @SV.flat.eq_1)) (And.intro (And.intro @SV.flat.eq_2
  @SV.flat.eq_3) (And.intro @SV.flat.eq_4 @SV.flat.eq_5))) (And.intro (And.intro (And.intro @SV.flat.eq_6 @SV.flat.eq_7) (And.intro @lookF.eq_1 @lookF.eq_2))
  (And.intro (And.intro @setv.eq_1 @setv.eq_2) (And.intro @lookT.eq_1 @lookT.eq_2)))) (And.intro (And.intro (And.intro @frOf.eq_1 (And.intro @frOf.eq_2
  @Opd.ev.eq_1)) (And.intro (And.intro @Opd.ev.eq_2 @Opd.ev.eq_3) (And.intro @Opd.ev.eq_4 @get.eq_1))) (And.intro (And.intro (And.intro @get.eq_2 @put.eq_1)
  (And.intro @putO.eq_1 @putO.eq_2)) (And.intro (And.intro @del.eq_1 @del.eq_2) (And.intro @dels.eq_1 @dels.eq_2))))) (And.intro (And.intro (And.intro (And.intro
  @frD.eq_1 (And.intro @frD.eq_2 @memD.eq_1)) (And.intro (And.intro @memD.eq_2 @pickD.eq_1) (And.intro @pickD.eq_2 @kills.eq_1))) (And.intro (And.intro (And.intro
  @kills.eq_2 @views.eq_1) (And.intro @views.eq_2 @newer.eq_1)) (And.intro (And.intro @newer.eq_2 @rd.eq_1) (And.intro @rd.eq_2 @rm.eq_1)))) (And.intro (And.intro
  (And.intro (And.intro @rm.eq_2 @SV.cells?.eq_1) (And.intro @SV.cells?.eq_2 @SV.one.eq_1)) (And.intro (And.intro @SV.one.eq_2 @SV.one.eq_3) (And.intro
  @SV.one.eq_4 @SV.one.eq_5))) (And.intro (And.intro (And.intro @retOf.eq_1 @retOf.eq_2) (And.intro @canLW.eq_1 @canLW.eq_2)) (And.intro (And.intro @canV.eq_1
  @canV.eq_2) (And.intro @canV.eq_3 @canV.eq_4)))))) (And.intro (And.intro (And.intro (And.intro (And.intro @canV.eq_5 (And.intro @canV.eq_6 @canV.eq_7))
  (And.intro (And.intro @canV.eq_8 @canV.eq_9) (And.intro @canV.eq_10 @canV.eq_11))) (And.intro (And.intro (And.intro @canC.eq_1 @belowL.eq_1) (And.intro
  @belowL.eq_2 @apH.eq_1)) (And.intro (And.intro @apH.eq_2 @apH1.eq_1) (And.intro @apH1.eq_2 @eta.eq_1)))) (And.intro (And.intro (And.intro @SV.ren.eq_1
  (And.intro @SV.ren.eq_2 @SV.ren.eq_3)) (And.intro (And.intro @SV.ren.eq_4 @SV.ren.eq_5) (And.intro @SV.ren.eq_6 @SV.ren.eq_7))) (And.intro (And.intro (And.intro
  @SV.ren.eq_8 @SV.ren.eq_9) (And.intro @SV.ren.eq_10 @SV.ren.eq_11)) (And.intro (And.intro @SV.ren.eq_12 @SV.renL.eq_1) (And.intro @SV.renL.eq_2
  @newOwn.eq_1))))) (And.intro (And.intro (And.intro (And.intro @newOwn.eq_2 (And.intro @targets.eq_1 @targets.eq_2)) (And.intro (And.intro @rms.eq_1 @rms.eq_2)
  (And.intro @Kind.isOwn.eq_1 @Kind.isOwn.eq_2))) (And.intro (And.intro (And.intro @EntM.eq_1 @compat.eq_1) (And.intro @compat.eq_2 @apartM.eq_1)) (And.intro
  (And.intro @apartM.eq_2 @keysBelow.eq_1) (And.intro @keysBelow.eq_2 @frEnt.eq_1)))) (And.intro (And.intro (And.intro (And.intro @frEnt.eq_2 @geto.eq_1)
  (And.intro @geto.eq_2 @idHs.eq_1)) (And.intro (And.intro @idHs.eq_2 @implies_true.{1}) (And.intro @forall_const.{1} @exists_eq_left'.{1}))) (And.intro
  (And.intro (And.intro @forall_eq.{1} @forall_eq_or_imp.{1}) (And.intro @exists_eq_left.{1} @eq_self.{1})) (And.intro (And.intro @ne_eq.{1} @false_imp_iff)
  (And.intro @true_imp_iff @imp_self)))))))):=And.intro BB ( And.intro (And.intro (And.intro (And.intro (And.intro (And.intro @SV.flatL.eq_1 (And.intro @SV.flatL.eq_2 @SV.flat.eq_1)) (And.intro (And.intro @SV.flat.eq_2
  @SV.flat.eq_3) (And.intro @SV.flat.eq_4 @SV.flat.eq_5))) (And.intro (And.intro (And.intro @SV.flat.eq_6 @SV.flat.eq_7) (And.intro @lookF.eq_1 @lookF.eq_2))
  (And.intro (And.intro @setv.eq_1 @setv.eq_2) (And.intro @lookT.eq_1 @lookT.eq_2)))) (And.intro (And.intro (And.intro @frOf.eq_1 (And.intro @frOf.eq_2
  @Opd.ev.eq_1)) (And.intro (And.intro @Opd.ev.eq_2 @Opd.ev.eq_3) (And.intro @Opd.ev.eq_4 @get.eq_1))) (And.intro (And.intro (And.intro @get.eq_2 @put.eq_1)
  (And.intro @putO.eq_1 @putO.eq_2)) (And.intro (And.intro @del.eq_1 @del.eq_2) (And.intro @dels.eq_1 @dels.eq_2))))) (And.intro (And.intro (And.intro (And.intro
  @frD.eq_1 (And.intro @frD.eq_2 @memD.eq_1)) (And.intro (And.intro @memD.eq_2 @pickD.eq_1) (And.intro @pickD.eq_2 @kills.eq_1))) (And.intro (And.intro (And.intro
  @kills.eq_2 @views.eq_1) (And.intro @views.eq_2 @newer.eq_1)) (And.intro (And.intro @newer.eq_2 @rd.eq_1) (And.intro @rd.eq_2 @rm.eq_1)))) (And.intro (And.intro
  (And.intro (And.intro @rm.eq_2 @SV.cells?.eq_1) (And.intro @SV.cells?.eq_2 @SV.one.eq_1)) (And.intro (And.intro @SV.one.eq_2 @SV.one.eq_3) (And.intro
  @SV.one.eq_4 @SV.one.eq_5))) (And.intro (And.intro (And.intro @retOf.eq_1 @retOf.eq_2) (And.intro @canLW.eq_1 @canLW.eq_2)) (And.intro (And.intro @canV.eq_1
  @canV.eq_2) (And.intro @canV.eq_3 @canV.eq_4)))))) (And.intro (And.intro (And.intro (And.intro (And.intro @canV.eq_5 (And.intro @canV.eq_6 @canV.eq_7))
  (And.intro (And.intro @canV.eq_8 @canV.eq_9) (And.intro @canV.eq_10 @canV.eq_11))) (And.intro (And.intro (And.intro @canC.eq_1 @belowL.eq_1) (And.intro
  @belowL.eq_2 @apH.eq_1)) (And.intro (And.intro @apH.eq_2 @apH1.eq_1) (And.intro @apH1.eq_2 @eta.eq_1)))) (And.intro (And.intro (And.intro @SV.ren.eq_1
  (And.intro @SV.ren.eq_2 @SV.ren.eq_3)) (And.intro (And.intro @SV.ren.eq_4 @SV.ren.eq_5) (And.intro @SV.ren.eq_6 @SV.ren.eq_7))) (And.intro (And.intro (And.intro
  @SV.ren.eq_8 @SV.ren.eq_9) (And.intro @SV.ren.eq_10 @SV.ren.eq_11)) (And.intro (And.intro @SV.ren.eq_12 @SV.renL.eq_1) (And.intro @SV.renL.eq_2
  @newOwn.eq_1))))) (And.intro (And.intro (And.intro (And.intro @newOwn.eq_2 (And.intro @targets.eq_1 @targets.eq_2)) (And.intro (And.intro @rms.eq_1 @rms.eq_2)
  (And.intro @Kind.isOwn.eq_1 @Kind.isOwn.eq_2))) (And.intro (And.intro (And.intro @EntM.eq_1 @compat.eq_1) (And.intro @compat.eq_2 @apartM.eq_1)) (And.intro
  (And.intro @apartM.eq_2 @keysBelow.eq_1) (And.intro @keysBelow.eq_2 @frEnt.eq_1)))) (And.intro (And.intro (And.intro (And.intro @frEnt.eq_2 @geto.eq_1)
  (And.intro @geto.eq_2 @idHs.eq_1)) (And.intro (And.intro @idHs.eq_2 @implies_true.{1}) (And.intro @forall_const.{1} @exists_eq_left'.{1}))) (And.intro
  (And.intro (And.intro @forall_eq.{1} @forall_eq_or_imp.{1}) (And.intro @exists_eq_left.{1} @eq_self.{1})) (And.intro (And.intro @ne_eq.{1} @false_imp_iff)
  (And.intro @true_imp_iff @imp_self)))))))
theorem PC:type_of% (And.intro PB ( And.intro (And.intro (And.intro (And.intro @binI.eq_1 (And.intro @binI.eq_2 @binI.eq_3)) (And.intro (And.intro @binI.eq_4 @binI.eq_5) (And.intro @binI.eq_6
  @binI.eq_7))) (And.intro (And.intro (And.intro @binI.eq_8 @binI.eq_9) (And.intro @binI.eq_10 @binI.eq_11)) (And.intro (And.intro @binI.eq_12 @binI.eq_13)
  (And.intro @binI.eq_14 @binI.eq_15)))) (And.intro (And.intro (And.intro @binI.eq_16 (And.intro @binI.eq_17 @binS.eq_1)) (And.intro (And.intro @binS.eq_2
  @binS.eq_3) (And.intro @binS.eq_4 @binS.eq_5))) (And.intro (And.intro (And.intro @binS.eq_6 @binS.eq_7) (And.intro @binS.eq_8 @fillE.eq_1)) (And.intro
  (And.intro @fillE.eq_2 @evRes.eq_1) (And.intro @evRes.eq_2 @evRes.eq_3)))))):=And.intro PB ( And.intro (And.intro (And.intro (And.intro @binI.eq_1 (And.intro @binI.eq_2 @binI.eq_3)) (And.intro (And.intro @binI.eq_4 @binI.eq_5) (And.intro @binI.eq_6
  @binI.eq_7))) (And.intro (And.intro (And.intro @binI.eq_8 @binI.eq_9) (And.intro @binI.eq_10 @binI.eq_11)) (And.intro (And.intro @binI.eq_12 @binI.eq_13)
  (And.intro @binI.eq_14 @binI.eq_15)))) (And.intro (And.intro (And.intro @binI.eq_16 (And.intro @binI.eq_17 @binS.eq_1)) (And.intro (And.intro @binS.eq_2
  @binS.eq_3) (And.intro @binS.eq_4 @binS.eq_5))) (And.intro (And.intro (And.intro @binS.eq_6 @binS.eq_7) (And.intro @binS.eq_8 @fillE.eq_1)) (And.intro
  (And.intro @fillE.eq_2 @evRes.eq_1) (And.intro @evRes.eq_2 @evRes.eq_3)))))
end Go.Proofs.YtmhkkalbijbplaaGreatDoor

/- The lemmas of the new style in bundles. -/
namespace Go.Proofs.YtmhkkalbijbplaaGreatDoor
open Go Go.Sx
theorem NV:type_of% ( And.intro (And.intro (And.intro (And.intro (And.intro (And.intro (And.intro @SV.flatL.eq_1 (And.intro @SV.flatL.eq_2 @SV.flat.eq_1)) (And.intro (And.intro
  @SV.flat.eq_2 @SV.flat.eq_3) (And.intro @SV.flat.eq_4 @SV.flat.eq_5))) (And.intro (And.intro @SV.flat.eq_6 (And.intro @SV.flat.eq_7 @Bool.and_true)) (And.intro
  (And.intro @Bool.and_self @Bool.true_and) (And.intro @beq_self_eq_true.{0} @Blk.mk.injEq)))) (And.intro (And.intro (And.intro @List.cons.injEq.{0} (And.intro
  @SV.int.injEq @SV.bool.injEq)) (And.intro (And.intro @SV.tup.injEq @SV.agg.injEq) (And.intro @and_self @setv.eq_1))) (And.intro (And.intro @setv.eq_2 (And.intro
  @finO_r @finO_n)) (And.intro (And.intro @finO_x @again_n) (And.intro @again_x @again_r))))) (And.intro (And.intro (And.intro (And.intro @lookT.eq_1 (And.intro
  @lookT.eq_2 @wrap64)) (And.intro (And.intro @false_imp_iff @true_imp_iff) (And.intro @eq_self.{1} @decide_true))) (And.intro (And.intro @decide_false (And.intro
  @Int.cast_ofNat_Int @true_and)) (And.intro (And.intro @and_true @false_and) (And.intro @and_false @imp_self)))) (And.intro (And.intro (And.intro
  @implies_true.{1} (And.intro @List.getElem?_cons_zero.{0} @List.getElem?_cons_succ.{0})) (And.intro (And.intro @List.length_cons.{0} @List.length_nil.{0})
  (And.intro @List.append_nil.{0} @List.nil_append.{0}))) (And.intro (And.intro (And.intro @List.cons_append.{0} @List.take_succ_cons.{0}) (And.intro
  @List.take_zero.{0} @List.drop_succ_cons.{0})) (And.intro (And.intro @List.drop_zero.{0} @List.take_nil.{0}) (And.intro @List.drop_nil.{0}
  @List.reverse_cons.{0})))))) (And.intro (And.intro (And.intro (And.intro (And.intro @List.reverse_nil.{0} (And.intro @List.map_cons.{0,0} @List.map_nil.{0,
  0})) (And.intro (And.intro @Nat.zero_add @Nat.add_zero) (And.intro @frOf.eq_1 @frOf.eq_2))) (And.intro (And.intro @den_nil (And.intro @den_o0 @gd_any))
  (And.intro (And.intro @den_o1 @kont_app) (And.intro @den_g @Bool.not_true)))) (And.intro (And.intro (And.intro @Bool.not_false (And.intro @den_skip @den_reg))
  (And.intro (And.intro @den_regD @den_regP) (And.intro @den_A @den_regW))) (And.intro (And.intro @den_W (And.intro @den_bad @List.all_cons.{0})) (And.intro
  (And.intro @List.all_nil.{0} @List.contains_cons.{0}) (And.intro @List.contains_nil.{0} @Bool.or_false))))) (And.intro (And.intro (And.intro (And.intro
  @Bool.or_self (And.intro @Bool.false_or @Bool.true_or)) (And.intro (And.intro @Bool.or_true @den_seq) (And.intro @den_cond @den_block))) (And.intro (And.intro
  @den_exit (And.intro @den_ret @den_b)) (And.intro (And.intro @den_xb @den_xo) (And.intro @den_xc @den_xu)))) (And.intro (And.intro (And.intro @den_rb (And.intro
  @den_ro @den_rc)) (And.intro (And.intro @den_ru @den_u) (And.intro @den_loopU @finP_r))) (And.intro (And.intro (And.intro @finP_n @finP_x) (And.intro @finE_r
  @finE_n)) (And.intro (And.intro @finE_x @evA_n) (And.intro @evA_g @kontA_app))))))) (And.intro (And.intro (And.intro (And.intro (And.intro (And.intro @kontP_app
  (And.intro @Opd.ev.eq_1 @Opd.ev.eq_2)) (And.intro (And.intro @Opd.ev.eq_3 @Opd.ev.eq_4) (And.intro @get.eq_1 @get.eq_2))) (And.intro (And.intro @put.eq_1
  (And.intro @putO.eq_1 @putO.eq_2)) (And.intro (And.intro @del.eq_1 @del.eq_2) (And.intro @dels.eq_1 @dels.eq_2)))) (And.intro (And.intro (And.intro @frD.eq_1
  (And.intro @frD.eq_2 @memD.eq_1)) (And.intro (And.intro @memD.eq_2 @pickD.eq_1) (And.intro @pickD.eq_2 @kills.eq_1))) (And.intro (And.intro @kills.eq_2
  (And.intro @views.eq_1 @views.eq_2)) (And.intro (And.intro @newer.eq_1 @newer.eq_2) (And.intro @rd.eq_1 @rd.eq_2))))) (And.intro (And.intro (And.intro
  (And.intro @rm.eq_1 (And.intro @rm.eq_2 @SV.cells?.eq_1)) (And.intro (And.intro @SV.cells?.eq_2 @SV.one.eq_1) (And.intro @SV.one.eq_2 @SV.one.eq_3))) (And.intro
  (And.intro @SV.one.eq_4 (And.intro @SV.one.eq_5 @retOf.eq_1)) (And.intro (And.intro @retOf.eq_2 @belowL.eq_1) (And.intro @belowL.eq_2 @apH.eq_1)))) (And.intro
  (And.intro (And.intro @apH.eq_2 (And.intro @apH1.eq_1 @apH1.eq_2)) (And.intro (And.intro @eta.eq_1 @SV.ren.eq_1) (And.intro @SV.ren.eq_2 @SV.ren.eq_3)))
  (And.intro (And.intro (And.intro @SV.ren.eq_4 @SV.ren.eq_5) (And.intro @SV.ren.eq_6 @SV.ren.eq_7)) (And.intro (And.intro @SV.ren.eq_8 @SV.ren.eq_9) (And.intro
  @SV.ren.eq_10 @SV.ren.eq_11)))))) (And.intro (And.intro (And.intro (And.intro (And.intro @SV.ren.eq_12 (And.intro @SV.renL.eq_1 @SV.renL.eq_2)) (And.intro
  (And.intro @newOwn.eq_1 @newOwn.eq_2) (And.intro @targets.eq_1 @targets.eq_2))) (And.intro (And.intro @rms.eq_1 (And.intro @rms.eq_2 @Kind.isOwn.eq_1))
  (And.intro (And.intro @Kind.isOwn.eq_2 @ren_bytes) (And.intro @byte_ren @ren_ints)))) (And.intro (And.intro (And.intro @flat_ints (And.intro @len_ints
  @List.getElem?_nil.{0})) (And.intro (And.intro @Option.getD_none.{0} @Option.getD_some.{0}) (And.intro @Nat.sub_zero @not_true_eq_false))) (And.intro (And.intro
  @not_false_eq_true (And.intro @Nat.le_refl @take_bytes)) (And.intro (And.intro @take_ints @nlS_0) (And.intro @nlS_1 @nlM_0))))) (And.intro (And.intro (And.intro
  (And.intro @nlM_1 (And.intro @nlN_0 @nlN_1)) (And.intro (And.intro @take_bys1 @map_byte) (And.intro @len_bytes @flat_bytes))) (And.intro (And.intro
  @Int.toNat_natCast (And.intro @Nat.mul_one @Int.le_refl)) (And.intro (And.intro @Option.map_none.{0,0} @splice_0n) (And.intro @splice_0c @splice_cs))))
  (And.intro (And.intro (And.intro @List.length_append.{0} (And.intro @splice_allE @take_bysE)) (And.intro (And.intro @kontK_app @uniqB.eq_1) (And.intro
  @uniqB.eq_2 @den_regK))) (And.intro (And.intro (And.intro @exF_mk @exV_mk) (And.intro @exB_mk @all_isU8)) (And.intro (And.intro @map_byteOf @freshB.eq_1)
  (And.intro @freshB.eq_2 @Nat.lt_irrefl)))))))):=And.intro (And.intro (And.intro (And.intro (And.intro (And.intro (And.intro @SV.flatL.eq_1 (And.intro @SV.flatL.eq_2 @SV.flat.eq_1)) (And.intro (And.intro
  @SV.flat.eq_2 @SV.flat.eq_3) (And.intro @SV.flat.eq_4 @SV.flat.eq_5))) (And.intro (And.intro @SV.flat.eq_6 (And.intro @SV.flat.eq_7 @Bool.and_true)) (And.intro
  (And.intro @Bool.and_self @Bool.true_and) (And.intro @beq_self_eq_true.{0} @Blk.mk.injEq)))) (And.intro (And.intro (And.intro @List.cons.injEq.{0} (And.intro
  @SV.int.injEq @SV.bool.injEq)) (And.intro (And.intro @SV.tup.injEq @SV.agg.injEq) (And.intro @and_self @setv.eq_1))) (And.intro (And.intro @setv.eq_2 (And.intro
  @finO_r @finO_n)) (And.intro (And.intro @finO_x @again_n) (And.intro @again_x @again_r))))) (And.intro (And.intro (And.intro (And.intro @lookT.eq_1 (And.intro
  @lookT.eq_2 @wrap64)) (And.intro (And.intro @false_imp_iff @true_imp_iff) (And.intro @eq_self.{1} @decide_true))) (And.intro (And.intro @decide_false (And.intro
  @Int.cast_ofNat_Int @true_and)) (And.intro (And.intro @and_true @false_and) (And.intro @and_false @imp_self)))) (And.intro (And.intro (And.intro
  @implies_true.{1} (And.intro @List.getElem?_cons_zero.{0} @List.getElem?_cons_succ.{0})) (And.intro (And.intro @List.length_cons.{0} @List.length_nil.{0})
  (And.intro @List.append_nil.{0} @List.nil_append.{0}))) (And.intro (And.intro (And.intro @List.cons_append.{0} @List.take_succ_cons.{0}) (And.intro
  @List.take_zero.{0} @List.drop_succ_cons.{0})) (And.intro (And.intro @List.drop_zero.{0} @List.take_nil.{0}) (And.intro @List.drop_nil.{0}
  @List.reverse_cons.{0})))))) (And.intro (And.intro (And.intro (And.intro (And.intro @List.reverse_nil.{0} (And.intro @List.map_cons.{0,0} @List.map_nil.{0,
  0})) (And.intro (And.intro @Nat.zero_add @Nat.add_zero) (And.intro @frOf.eq_1 @frOf.eq_2))) (And.intro (And.intro @den_nil (And.intro @den_o0 @gd_any))
  (And.intro (And.intro @den_o1 @kont_app) (And.intro @den_g @Bool.not_true)))) (And.intro (And.intro (And.intro @Bool.not_false (And.intro @den_skip @den_reg))
  (And.intro (And.intro @den_regD @den_regP) (And.intro @den_A @den_regW))) (And.intro (And.intro @den_W (And.intro @den_bad @List.all_cons.{0})) (And.intro
  (And.intro @List.all_nil.{0} @List.contains_cons.{0}) (And.intro @List.contains_nil.{0} @Bool.or_false))))) (And.intro (And.intro (And.intro (And.intro
  @Bool.or_self (And.intro @Bool.false_or @Bool.true_or)) (And.intro (And.intro @Bool.or_true @den_seq) (And.intro @den_cond @den_block))) (And.intro (And.intro
  @den_exit (And.intro @den_ret @den_b)) (And.intro (And.intro @den_xb @den_xo) (And.intro @den_xc @den_xu)))) (And.intro (And.intro (And.intro @den_rb (And.intro
  @den_ro @den_rc)) (And.intro (And.intro @den_ru @den_u) (And.intro @den_loopU @finP_r))) (And.intro (And.intro (And.intro @finP_n @finP_x) (And.intro @finE_r
  @finE_n)) (And.intro (And.intro @finE_x @evA_n) (And.intro @evA_g @kontA_app))))))) (And.intro (And.intro (And.intro (And.intro (And.intro (And.intro @kontP_app
  (And.intro @Opd.ev.eq_1 @Opd.ev.eq_2)) (And.intro (And.intro @Opd.ev.eq_3 @Opd.ev.eq_4) (And.intro @get.eq_1 @get.eq_2))) (And.intro (And.intro @put.eq_1
  (And.intro @putO.eq_1 @putO.eq_2)) (And.intro (And.intro @del.eq_1 @del.eq_2) (And.intro @dels.eq_1 @dels.eq_2)))) (And.intro (And.intro (And.intro @frD.eq_1
  (And.intro @frD.eq_2 @memD.eq_1)) (And.intro (And.intro @memD.eq_2 @pickD.eq_1) (And.intro @pickD.eq_2 @kills.eq_1))) (And.intro (And.intro @kills.eq_2
  (And.intro @views.eq_1 @views.eq_2)) (And.intro (And.intro @newer.eq_1 @newer.eq_2) (And.intro @rd.eq_1 @rd.eq_2))))) (And.intro (And.intro (And.intro
  (And.intro @rm.eq_1 (And.intro @rm.eq_2 @SV.cells?.eq_1)) (And.intro (And.intro @SV.cells?.eq_2 @SV.one.eq_1) (And.intro @SV.one.eq_2 @SV.one.eq_3))) (And.intro
  (And.intro @SV.one.eq_4 (And.intro @SV.one.eq_5 @retOf.eq_1)) (And.intro (And.intro @retOf.eq_2 @belowL.eq_1) (And.intro @belowL.eq_2 @apH.eq_1)))) (And.intro
  (And.intro (And.intro @apH.eq_2 (And.intro @apH1.eq_1 @apH1.eq_2)) (And.intro (And.intro @eta.eq_1 @SV.ren.eq_1) (And.intro @SV.ren.eq_2 @SV.ren.eq_3)))
  (And.intro (And.intro (And.intro @SV.ren.eq_4 @SV.ren.eq_5) (And.intro @SV.ren.eq_6 @SV.ren.eq_7)) (And.intro (And.intro @SV.ren.eq_8 @SV.ren.eq_9) (And.intro
  @SV.ren.eq_10 @SV.ren.eq_11)))))) (And.intro (And.intro (And.intro (And.intro (And.intro @SV.ren.eq_12 (And.intro @SV.renL.eq_1 @SV.renL.eq_2)) (And.intro
  (And.intro @newOwn.eq_1 @newOwn.eq_2) (And.intro @targets.eq_1 @targets.eq_2))) (And.intro (And.intro @rms.eq_1 (And.intro @rms.eq_2 @Kind.isOwn.eq_1))
  (And.intro (And.intro @Kind.isOwn.eq_2 @ren_bytes) (And.intro @byte_ren @ren_ints)))) (And.intro (And.intro (And.intro @flat_ints (And.intro @len_ints
  @List.getElem?_nil.{0})) (And.intro (And.intro @Option.getD_none.{0} @Option.getD_some.{0}) (And.intro @Nat.sub_zero @not_true_eq_false))) (And.intro (And.intro
  @not_false_eq_true (And.intro @Nat.le_refl @take_bytes)) (And.intro (And.intro @take_ints @nlS_0) (And.intro @nlS_1 @nlM_0))))) (And.intro (And.intro (And.intro
  (And.intro @nlM_1 (And.intro @nlN_0 @nlN_1)) (And.intro (And.intro @take_bys1 @map_byte) (And.intro @len_bytes @flat_bytes))) (And.intro (And.intro
  @Int.toNat_natCast (And.intro @Nat.mul_one @Int.le_refl)) (And.intro (And.intro @Option.map_none.{0,0} @splice_0n) (And.intro @splice_0c @splice_cs))))
  (And.intro (And.intro (And.intro @List.length_append.{0} (And.intro @splice_allE @take_bysE)) (And.intro (And.intro @kontK_app @uniqB.eq_1) (And.intro
  @uniqB.eq_2 @den_regK))) (And.intro (And.intro (And.intro @exF_mk @exV_mk) (And.intro @exB_mk @all_isU8)) (And.intro (And.intro @map_byteOf @freshB.eq_1)
  (And.intro @freshB.eq_2 @Nat.lt_irrefl)))))))
theorem NP:type_of% ( And.intro (And.intro (And.intro (And.intro (And.intro (And.intro @gd_tt (And.intro @gd_ff @gd_tf)) (And.intro @gd_ft (And.intro @e_box @e_build))) (And.intro
  (And.intro @e_bslice (And.intro @e_load @e_store)) (And.intro @e_idxS (And.intro @e_idxV @e_idxT)))) (And.intro (And.intro (And.intro @e_fieldV (And.intro
  @e_eqv @e_isNil)) (And.intro @e_b2s (And.intro @e_slcS @e_arrAt))) (And.intro (And.intro @e_ext (And.intro @e_app @e_copy)) (And.intro @e_mv (And.intro @e_pick
  @e_new))))) (And.intro (And.intro (And.intro (And.intro @e_nilc (And.intro @e_fld @e_idxA)) (And.intro @e_bin (And.intro @e_eqb @e_un))) (And.intro (And.intro
  @e_conv (And.intro @e_strS @e_s2b)) (And.intro @e_mkfn (And.intro @e_mksl @e_slcA)))) (And.intro (And.intro (And.intro @e_slcT (And.intro @e_call @e_callpK))
  (And.intro @e_callv (And.intro @e_len @e_lenA))) (And.intro (And.intro @e_mx (And.intro @e_mn @e_mkmap)) (And.intro @e_mput (And.intro @e_mlen @e_mk8))))))
  (And.intro (And.intro (And.intro (And.intro (And.intro @e_capN (And.intro @e_pcmp @e_cvp)) (And.intro @e_noesc (And.intro @e_sdat @e_ustr))) (And.intro
  (And.intro @e_appZ (And.intro @u_onInt @u_onBool)) (And.intro @u_onOpt0 (And.intro @u_onOpt1 @u_binV)))) (And.intro (And.intro (And.intro @u_srcOf (And.intro
  @u_srcSl @binI.eq_1)) (And.intro @binI.eq_2 (And.intro @binI.eq_3 @binI.eq_4))) (And.intro (And.intro @binI.eq_5 (And.intro @binI.eq_6 @binI.eq_7)) (And.intro
  @binI.eq_8 (And.intro @binI.eq_9 @binI.eq_10))))) (And.intro (And.intro (And.intro (And.intro @binI.eq_11 (And.intro @binI.eq_12 @binI.eq_13)) (And.intro
  @binI.eq_14 (And.intro @binI.eq_15 @binI.eq_16))) (And.intro (And.intro @binI.eq_17 (And.intro @binS.eq_1 @binS.eq_2)) (And.intro @binS.eq_3 (And.intro
  @binS.eq_4 @binS.eq_5)))) (And.intro (And.intro (And.intro @binS.eq_6 (And.intro @binS.eq_7 @binS.eq_8)) (And.intro @fillE.eq_1 (And.intro @fillE.eq_2
  @evRes.eq_1))) (And.intro (And.intro @evRes.eq_2 (And.intro @evRes.eq_3 @evA_0)) (And.intro @byte_cells (And.intro @u_callK @u_onKept))))))):=And.intro (And.intro (And.intro (And.intro (And.intro (And.intro @gd_tt (And.intro @gd_ff @gd_tf)) (And.intro @gd_ft (And.intro @e_box @e_build))) (And.intro
  (And.intro @e_bslice (And.intro @e_load @e_store)) (And.intro @e_idxS (And.intro @e_idxV @e_idxT)))) (And.intro (And.intro (And.intro @e_fieldV (And.intro
  @e_eqv @e_isNil)) (And.intro @e_b2s (And.intro @e_slcS @e_arrAt))) (And.intro (And.intro @e_ext (And.intro @e_app @e_copy)) (And.intro @e_mv (And.intro @e_pick
  @e_new))))) (And.intro (And.intro (And.intro (And.intro @e_nilc (And.intro @e_fld @e_idxA)) (And.intro @e_bin (And.intro @e_eqb @e_un))) (And.intro (And.intro
  @e_conv (And.intro @e_strS @e_s2b)) (And.intro @e_mkfn (And.intro @e_mksl @e_slcA)))) (And.intro (And.intro (And.intro @e_slcT (And.intro @e_call @e_callpK))
  (And.intro @e_callv (And.intro @e_len @e_lenA))) (And.intro (And.intro @e_mx (And.intro @e_mn @e_mkmap)) (And.intro @e_mput (And.intro @e_mlen @e_mk8))))))
  (And.intro (And.intro (And.intro (And.intro (And.intro @e_capN (And.intro @e_pcmp @e_cvp)) (And.intro @e_noesc (And.intro @e_sdat @e_ustr))) (And.intro
  (And.intro @e_appZ (And.intro @u_onInt @u_onBool)) (And.intro @u_onOpt0 (And.intro @u_onOpt1 @u_binV)))) (And.intro (And.intro (And.intro @u_srcOf (And.intro
  @u_srcSl @binI.eq_1)) (And.intro @binI.eq_2 (And.intro @binI.eq_3 @binI.eq_4))) (And.intro (And.intro @binI.eq_5 (And.intro @binI.eq_6 @binI.eq_7)) (And.intro
  @binI.eq_8 (And.intro @binI.eq_9 @binI.eq_10))))) (And.intro (And.intro (And.intro (And.intro @binI.eq_11 (And.intro @binI.eq_12 @binI.eq_13)) (And.intro
  @binI.eq_14 (And.intro @binI.eq_15 @binI.eq_16))) (And.intro (And.intro @binI.eq_17 (And.intro @binS.eq_1 @binS.eq_2)) (And.intro @binS.eq_3 (And.intro
  @binS.eq_4 @binS.eq_5)))) (And.intro (And.intro (And.intro @binS.eq_6 (And.intro @binS.eq_7 @binS.eq_8)) (And.intro @fillE.eq_1 (And.intro @fillE.eq_2
  @evRes.eq_1))) (And.intro (And.intro @evRes.eq_2 (And.intro @evRes.eq_3 @evA_0)) (And.intro @byte_cells (And.intro @u_callK @u_onKept))))))
theorem NJ:type_of% ( And.intro (And.intro (And.intro @compat.eq_1 (And.intro @compat.eq_2 @apartM.eq_1)) (And.intro (And.intro @apartM.eq_2 @keysBelow.eq_1) (And.intro
  @keysBelow.eq_2 @zeroSh.eq_1))) (And.intro (And.intro (And.intro @zeroSh.eq_2 @Option.some.injEq.{0}) (And.intro @exists_eq_left'.{1}
  @List.forall_mem_cons.{0})) (And.intro (And.intro @List.not_mem_nil.{0} @ne_eq.{1}) (And.intro @forall_const.{1} @List.take_length.{0})))):=And.intro (And.intro (And.intro @compat.eq_1 (And.intro @compat.eq_2 @apartM.eq_1)) (And.intro (And.intro @apartM.eq_2 @keysBelow.eq_1) (And.intro
  @keysBelow.eq_2 @zeroSh.eq_1))) (And.intro (And.intro (And.intro @zeroSh.eq_2 @Option.some.injEq.{0}) (And.intro @exists_eq_left'.{1}
  @List.forall_mem_cons.{0})) (And.intro (And.intro @List.not_mem_nil.{0} @ne_eq.{1}) (And.intro @forall_const.{1} @List.take_length.{0})))
theorem NF:type_of% ( And.intro (And.intro (And.intro (And.intro (And.intro (And.intro @EntM.eq_1 @compat.eq_1) (And.intro @compat.eq_2 (And.intro @apartM.eq_1 @apartM.eq_2)))
  (And.intro (And.intro @keysBelow.eq_1 (And.intro @keysBelow.eq_2 @frEnt.eq_1)) (And.intro @frEnt.eq_2 (And.intro @geto.eq_1 @geto.eq_2)))) (And.intro (And.intro
  (And.intro @eta.eq_1 @idHs.eq_1) (And.intro @idHs.eq_2 (And.intro @rd.eq_1 @rd.eq_2))) (And.intro (And.intro @SV.ren.eq_1 (And.intro @SV.ren.eq_2 @SV.ren.eq_3))
  (And.intro @SV.ren.eq_4 (And.intro @SV.ren.eq_5 @SV.ren.eq_6))))) (And.intro (And.intro (And.intro (And.intro @SV.ren.eq_7 @SV.ren.eq_8) (And.intro @SV.ren.eq_9
  (And.intro @SV.ren.eq_10 @SV.ren.eq_11))) (And.intro (And.intro @SV.ren.eq_12 (And.intro @SV.renL.eq_1 @SV.renL.eq_2)) (And.intro @Option.getD_some.{0}
  (And.intro @Option.getD_none.{0} @List.getElem?_cons_zero.{0})))) (And.intro (And.intro (And.intro @List.getElem?_cons_succ.{0} (And.intro
  @List.getElem?_nil.{0} @List.length_cons.{0})) (And.intro @List.length_nil.{0} (And.intro @Nat.zero_add @Nat.add_zero))) (And.intro (And.intro @Kind.isOwn.eq_1
  (And.intro @Kind.isOwn.eq_2 @List.take_succ_cons.{0})) (And.intro @List.take_zero.{0} (And.intro @List.nil_append.{0} @List.cons_append.{0})))))) (And.intro
  (And.intro (And.intro (And.intro (And.intro @List.append_nil.{0} @List.take_nil.{0}) (And.intro @and_self (And.intro @and_true @true_and))) (And.intro
  (And.intro @exists_eq_left'.{1} (And.intro @Option.some.injEq.{0} @Blk.mk.injEq)) (And.intro @Kind.own.injEq (And.intro @List.drop_zero.{0}
  @List.take_length.{0})))) (And.intro (And.intro (And.intro @Nat.le_refl (And.intro @ne_eq.{1} @not_false_eq_true)) (And.intro @implies_true.{1} (And.intro
  @List.forall_mem_cons.{0} @List.not_mem_nil.{0}))) (And.intro (And.intro @false_imp_iff (And.intro @Bool.or_false @Bool.false_or)) (And.intro @Bool.or_self
  (And.intro @Bool.true_or @Bool.or_true))))) (And.intro (And.intro (And.intro (And.intro @forall_const.{1} @List.mem_cons.{0}) (And.intro @or_false (And.intro
  @forall_eq_or_imp.{1} @forall_eq.{1}))) (And.intro (And.intro @Nat.succ_ne_self (And.intro @exists_eq_left.{1} @Option.some_inj.{0})) (And.intro @byte_ren
  (And.intro @one_byte @ren_bytes)))) (And.intro (And.intro (And.intro @len_bytes (And.intro @take_bytes @take_ints)) (And.intro @nlS_0 (And.intro @nlS_1
  @nlM_0))) (And.intro (And.intro @nlM_1 (And.intro @nlN_0 @nlN_1)) (And.intro @take_bys1 (And.intro @ren_ints @len_ints))))))):=And.intro (And.intro (And.intro (And.intro (And.intro (And.intro @EntM.eq_1 @compat.eq_1) (And.intro @compat.eq_2 (And.intro @apartM.eq_1 @apartM.eq_2)))
  (And.intro (And.intro @keysBelow.eq_1 (And.intro @keysBelow.eq_2 @frEnt.eq_1)) (And.intro @frEnt.eq_2 (And.intro @geto.eq_1 @geto.eq_2)))) (And.intro (And.intro
  (And.intro @eta.eq_1 @idHs.eq_1) (And.intro @idHs.eq_2 (And.intro @rd.eq_1 @rd.eq_2))) (And.intro (And.intro @SV.ren.eq_1 (And.intro @SV.ren.eq_2 @SV.ren.eq_3))
  (And.intro @SV.ren.eq_4 (And.intro @SV.ren.eq_5 @SV.ren.eq_6))))) (And.intro (And.intro (And.intro (And.intro @SV.ren.eq_7 @SV.ren.eq_8) (And.intro @SV.ren.eq_9
  (And.intro @SV.ren.eq_10 @SV.ren.eq_11))) (And.intro (And.intro @SV.ren.eq_12 (And.intro @SV.renL.eq_1 @SV.renL.eq_2)) (And.intro @Option.getD_some.{0}
  (And.intro @Option.getD_none.{0} @List.getElem?_cons_zero.{0})))) (And.intro (And.intro (And.intro @List.getElem?_cons_succ.{0} (And.intro
  @List.getElem?_nil.{0} @List.length_cons.{0})) (And.intro @List.length_nil.{0} (And.intro @Nat.zero_add @Nat.add_zero))) (And.intro (And.intro @Kind.isOwn.eq_1
  (And.intro @Kind.isOwn.eq_2 @List.take_succ_cons.{0})) (And.intro @List.take_zero.{0} (And.intro @List.nil_append.{0} @List.cons_append.{0})))))) (And.intro
  (And.intro (And.intro (And.intro (And.intro @List.append_nil.{0} @List.take_nil.{0}) (And.intro @and_self (And.intro @and_true @true_and))) (And.intro
  (And.intro @exists_eq_left'.{1} (And.intro @Option.some.injEq.{0} @Blk.mk.injEq)) (And.intro @Kind.own.injEq (And.intro @List.drop_zero.{0}
  @List.take_length.{0})))) (And.intro (And.intro (And.intro @Nat.le_refl (And.intro @ne_eq.{1} @not_false_eq_true)) (And.intro @implies_true.{1} (And.intro
  @List.forall_mem_cons.{0} @List.not_mem_nil.{0}))) (And.intro (And.intro @false_imp_iff (And.intro @Bool.or_false @Bool.false_or)) (And.intro @Bool.or_self
  (And.intro @Bool.true_or @Bool.or_true))))) (And.intro (And.intro (And.intro (And.intro @forall_const.{1} @List.mem_cons.{0}) (And.intro @or_false (And.intro
  @forall_eq_or_imp.{1} @forall_eq.{1}))) (And.intro (And.intro @Nat.succ_ne_self (And.intro @exists_eq_left.{1} @Option.some_inj.{0})) (And.intro @byte_ren
  (And.intro @one_byte @ren_bytes)))) (And.intro (And.intro (And.intro @len_bytes (And.intro @take_bytes @take_ints)) (And.intro @nlS_0 (And.intro @nlS_1
  @nlM_0))) (And.intro (And.intro @nlM_1 (And.intro @nlN_0 @nlN_1)) (And.intro @take_bys1 (And.intro @ren_ints @len_ints))))))
end Go.Proofs.YtmhkkalbijbplaaGreatDoor

/- The tables that the program reads: the round constants of SHA-256. -/
namespace Go.Proofs.YtmhkkalbijbplaaGreatDoor
open Go Go.Sx
def u32 (n:Int):SV:=.int .u32 n
def kc:List Int:=[0x428a2f98,0x71374491,0xb5c0fbcf,0xe9b5dba5,0x3956c25b,0x59f111f1,0x923f82a4,0xab1c5ed5,
  0xd807aa98,0x12835b01,0x243185be,0x550c7dc3,0x72be5d74,0x80deb1fe,0x9bdc06a7,0xc19bf174,
  0xe49b69c1,0xefbe4786,0x0fc19dc6,0x240ca1cc,0x2de92c6f,0x4a7484aa,0x5cb0a9dc,0x76f988da,
  0x983e5152,0xa831c66d,0xb00327c8,0xbf597fc7,0xc6e00bf3,0xd5a79147,0x06ca6351,0x14292967,
  0x27b70a85,0x2e1b2138,0x4d2c6dfc,0x53380d13,0x650a7354,0x766a0abb,0x81c2c92e,0x92722c85,
  0xa2bfe8a1,0xa81a664b,0xc24b8b70,0xc76c51a3,0xd192e819,0xd6990624,0xf40e3585,0x106aa070,
  0x19a4c116,0x1e376c08,0x2748774c,0x34b0bcb5,0x391c0cb3,0x4ed8aa4a,0x5b9cca4f,0x682e6ff3,
  0x748f82ee,0x78a5636f,0x84c87814,0x8cc70208,0x90befffa,0xa4506ceb,0xbef9a3f7,0xc67178f2]
def tH:List (Nat × List SV):=[(1,kc.map u32)]
def R64 (n:Int):Prop:=-9223372036854775808≤n∧n≤9223372036854775807
end Go.Proofs.YtmhkkalbijbplaaGreatDoor

/- The functions of the program, each text computed from the model's code: the kernel's check of each against the program. -/
namespace Go.Proofs.YtmhkkalbijbplaaGreatDoor
open Go Go.Sx
set_option maxRecDepth 100000
theorem ck33:chkF Tryz.prog 33 (mkSF Tryz.prog Tryz.f33)=true:=by kernel_rfl
theorem ck43:chkF Tryz.prog 43 (mkSF Tryz.prog Tryz.f43)=true:=by kernel_rfl
theorem ck45:chkF Tryz.prog 45 (mkSF Tryz.prog Tryz.f45)=true:=by kernel_rfl
theorem ck47:chkF Tryz.prog 47 (mkSF Tryz.prog Tryz.f47)=true:=by kernel_rfl
theorem ck49:chkF Tryz.prog 49 (mkSF Tryz.prog Tryz.f49)=true:=by kernel_rfl
theorem ck50:chkF Tryz.prog 50 (mkSF Tryz.prog Tryz.f50)=true:=by kernel_rfl
theorem ck51:chkF Tryz.prog 51 (mkSF Tryz.prog Tryz.f51)=true:=by kernel_rfl
theorem ck52:chkF Tryz.prog 52 (mkSF Tryz.prog Tryz.f52)=true:=by kernel_rfl
theorem ck63:chkF Tryz.prog 63 (mkSF Tryz.prog Tryz.f63)=true:=by kernel_rfl
theorem ck65:chkF Tryz.prog 65 (mkSF Tryz.prog Tryz.f65)=true:=by kernel_rfl
theorem ck74:chkF Tryz.prog 74 (mkSF Tryz.prog Tryz.f74)=true:=by kernel_rfl
theorem ck76:chkF Tryz.prog 76 (mkSF Tryz.prog Tryz.f76)=true:=by kernel_rfl
theorem ck77:chkF Tryz.prog 77 (mkSF Tryz.prog Tryz.f77)=true:=by kernel_rfl
theorem ck78:chkF Tryz.prog 78 (mkSF Tryz.prog Tryz.f78)=true:=by kernel_rfl
theorem ck79:chkF Tryz.prog 79 (mkSF Tryz.prog Tryz.f79)=true:=by kernel_rfl
theorem ck81:chkF Tryz.prog 81 (mkSF Tryz.prog Tryz.f81)=true:=by kernel_rfl
theorem ck89:chkF Tryz.prog 89 (mkSF Tryz.prog Tryz.f89)=true:=by kernel_rfl
theorem ck94:chkF Tryz.prog 94 (mkSF Tryz.prog Tryz.f94)=true:=by kernel_rfl
theorem ck96:chkF Tryz.prog 96 (mkSF Tryz.prog Tryz.f96)=true:=by kernel_rfl
theorem ck98:chkF Tryz.prog 98 (mkSF Tryz.prog Tryz.f98)=true:=by kernel_rfl
theorem ck99:chkF Tryz.prog 99 (mkSF Tryz.prog Tryz.f99)=true:=by kernel_rfl
theorem ck100:chkF Tryz.prog 100 (mkSF Tryz.prog Tryz.f100)=true:=by kernel_rfl
theorem ck101:chkF Tryz.prog 101 (mkSF Tryz.prog Tryz.f101)=true:=by kernel_rfl
theorem ck102:chkF Tryz.prog 102 (mkSF Tryz.prog Tryz.f102)=true:=by kernel_rfl
theorem ck103:chkF Tryz.prog 103 (mkSF Tryz.prog Tryz.f103)=true:=by kernel_rfl
theorem ck104:chkF Tryz.prog 104 (mkSF Tryz.prog Tryz.f104)=true:=by kernel_rfl
theorem ck105:chkF Tryz.prog 105 (mkSF Tryz.prog Tryz.f105)=true:=by kernel_rfl
theorem ck106:chkF Tryz.prog 106 (mkSF Tryz.prog Tryz.f106)=true:=by kernel_rfl
theorem ck107:chkF Tryz.prog 107 (mkSF Tryz.prog Tryz.f107)=true:=by kernel_rfl
theorem ck108:chkF Tryz.prog 108 (mkSF Tryz.prog Tryz.f108)=true:=by kernel_rfl
theorem ck109:chkF Tryz.prog 109 (mkSF Tryz.prog Tryz.f109)=true:=by kernel_rfl
theorem ck110:chkF Tryz.prog 110 (mkSF Tryz.prog Tryz.f110)=true:=by kernel_rfl
theorem ck111:chkF Tryz.prog 111 (mkSF Tryz.prog Tryz.f111)=true:=by kernel_rfl
theorem ck112:chkF Tryz.prog 112 (mkSF Tryz.prog Tryz.f112)=true:=by kernel_rfl
theorem ck114:chkF Tryz.prog 114 (mkSF Tryz.prog Tryz.f114)=true:=by kernel_rfl
theorem ck115:chkF Tryz.prog 115 (mkSF Tryz.prog Tryz.f115)=true:=by kernel_rfl
theorem ck116:chkF Tryz.prog 116 (mkSF Tryz.prog Tryz.f116)=true:=by kernel_rfl
theorem ck117:chkF Tryz.prog 117 (mkSF Tryz.prog Tryz.f117)=true:=by kernel_rfl
theorem ck123:chkF Tryz.prog 123 (mkSF Tryz.prog Tryz.f123)=true:=by kernel_rfl
theorem ck126:chkF Tryz.prog 126 (mkSF Tryz.prog Tryz.f126)=true:=by kernel_rfl
theorem ck127:chkF Tryz.prog 127 (mkSF Tryz.prog Tryz.f127)=true:=by kernel_rfl
theorem ck129:chkF Tryz.prog 129 (mkSF Tryz.prog Tryz.f129)=true:=by kernel_rfl
theorem ck131:chkF Tryz.prog 131 (mkSF Tryz.prog Tryz.f131)=true:=by kernel_rfl
theorem ck132:chkF Tryz.prog 132 (mkSF Tryz.prog Tryz.f132)=true:=by kernel_rfl
theorem ck133:chkF Tryz.prog 133 (mkSF Tryz.prog Tryz.f133)=true:=by kernel_rfl
theorem ck135:chkF Tryz.prog 135 (mkSF Tryz.prog Tryz.f135)=true:=by kernel_rfl
theorem ck136:chkF Tryz.prog 136 (mkSF Tryz.prog Tryz.f136)=true:=by kernel_rfl
theorem ck137:chkF Tryz.prog 137 (mkSF Tryz.prog Tryz.f137)=true:=by kernel_rfl
theorem ck138:chkF Tryz.prog 138 (mkSF Tryz.prog Tryz.f138)=true:=by kernel_rfl
theorem ck139:chkF Tryz.prog 139 (mkSF Tryz.prog Tryz.f139)=true:=by kernel_rfl
theorem ck140:chkF Tryz.prog 140 (mkSF Tryz.prog Tryz.f140)=true:=by kernel_rfl
theorem ck141:chkF Tryz.prog 141 (mkSF Tryz.prog Tryz.f141)=true:=by kernel_rfl
theorem ck142:chkF Tryz.prog 142 (mkSF Tryz.prog Tryz.f142)=true:=by kernel_rfl
theorem ck143:chkF Tryz.prog 143 (mkSF Tryz.prog Tryz.f143)=true:=by kernel_rfl
theorem ck144:chkF Tryz.prog 144 (mkSF Tryz.prog Tryz.f144)=true:=by kernel_rfl
theorem ck145:chkF Tryz.prog 145 (mkSF Tryz.prog Tryz.f145)=true:=by kernel_rfl
theorem ck146:chkF Tryz.prog 146 (mkSF Tryz.prog Tryz.f146)=true:=by kernel_rfl
theorem ck150:chkF Tryz.prog 150 (mkSF Tryz.prog Tryz.f150)=true:=by kernel_rfl
theorem ck151:chkF Tryz.prog 151 (mkSF Tryz.prog Tryz.f151)=true:=by kernel_rfl
theorem ck152:chkF Tryz.prog 152 (mkSF Tryz.prog Tryz.f152)=true:=by kernel_rfl
theorem ck155:chkF Tryz.prog 155 (mkSF Tryz.prog Tryz.f155)=true:=by kernel_rfl
theorem ck156:chkF Tryz.prog 156 (mkSF Tryz.prog Tryz.f156)=true:=by kernel_rfl
theorem ck157:chkF Tryz.prog 157 (mkSF Tryz.prog Tryz.f157)=true:=by kernel_rfl
theorem ck158:chkF Tryz.prog 158 (mkSF Tryz.prog Tryz.f158)=true:=by kernel_rfl
theorem ck159:chkF Tryz.prog 159 (mkSF Tryz.prog Tryz.f159)=true:=by kernel_rfl
theorem ck161:chkF Tryz.prog 161 (mkSF Tryz.prog Tryz.f161)=true:=by kernel_rfl
theorem ck162:chkF Tryz.prog 162 (mkSF Tryz.prog Tryz.f162)=true:=by kernel_rfl
theorem ck163:chkF Tryz.prog 163 (mkSF Tryz.prog Tryz.f163)=true:=by kernel_rfl
theorem ck164:chkF Tryz.prog 164 (mkSF Tryz.prog Tryz.f164)=true:=by kernel_rfl
theorem ck165:chkF Tryz.prog 165 (mkSF Tryz.prog Tryz.f165)=true:=by kernel_rfl
theorem ck167:chkF Tryz.prog 167 (mkSF Tryz.prog Tryz.f167)=true:=by kernel_rfl
theorem ck168:chkF Tryz.prog 168 (mkSF Tryz.prog Tryz.f168)=true:=by kernel_rfl
theorem ck169:chkF Tryz.prog 169 (mkSF Tryz.prog Tryz.f169)=true:=by kernel_rfl
theorem ck170:chkF Tryz.prog 170 (mkSF Tryz.prog Tryz.f170)=true:=by kernel_rfl
theorem ck172:chkF Tryz.prog 172 (mkSF Tryz.prog Tryz.f172)=true:=by kernel_rfl
end Go.Proofs.YtmhkkalbijbplaaGreatDoor

/- SHA-256 of package hash: the rotations. -/
namespace Go.Proofs.YtmhkkalbijbplaaGreatDoor
open Go Go.Sx
set_option maxRecDepth 100000
set_option linter.unusedSimpArgs false
set_option linter.unusedVariables false
variable {tS:List (Nat × List SV)}
def tab0:Tab:=⟨[],[]⟩
theorem tab0_ok:TabX Tryz.prog tS tab0:=⟨fun x h=>by simp [tab0] at h,fun x h=>by simp [tab0] at h⟩

theorem rot_amt {r:Nat} (h1:1≤r) (h2:r≤31):bitop .and .u64 (IntKind.u64.wrap (-(r:Int))) 31=((32 - r:Nat):Int) ∧
    IntKind.u64.wrap (32 - ((32 - r:Nat):Int))=(r:Int):=by
  have:∀ r:Fin 32,1≤r.val→bitop .and .u64 (IntKind.u64.wrap (-(r.val:Int))) 31=((32 - r.val:Nat):Int)∧IntKind.u64.wrap (32 - ((32 - r.val:Nat):Int))=(r.val:Int):=by decide
  exact this ⟨r,by omega⟩ h1

def rotI (n:Int) (r:Nat):Int:=bitop .or .u32 (IntKind.u32.wrap (n * 2 ^ (min (32 - r) IntKind.u32.bits))) (n.fdiv (2 ^ (min r IntKind.u32.bits)))
theorem rotI_w (x:W32) (r:Nat) (h2:r≤32):rotI (x.toNat:Int) r=((rotr r x).toNat:Int):=by
  unfold rotI
  rw [w_shl x (32 - r) (by omega),w_shr x r h2,w_or];rfl
theorem f104 (n:Int) (r:Nat) (h1:1≤r) (h2:r≤31):Fun Tryz.prog tS 172 [.int .u32 n,.int .i64 (-(r:Int))] [] 0 (.int .u32 (rotI n r)) [] 0:=by
  refine fun_pureG none (callX tab0) (callX_ok tab0_ok) ck172 (Nat.le_of_ble_eq_true rfl) (fun _=>rfl) ?_
  conv in mkSF _ _=>(reduce;simp only [u8lit,UInt8.reduceOfNat,Int.reduceOfNat,Int.reduceNegSucc])
  rw [exG_mk]
  obtain ⟨e1,e2⟩:=rot_amt h1 h2
  have e3:(0:Int)≤((32 - r:Nat):Int):=by omega
  have e4:(0:Int)≤(r:Int):=by omega
  have t1:((32 - r:Nat):Int).toNat=32 - r:=by omega
  have t2:((r:Nat):Int).toNat=r:=by omega
  simp (config:={ maxSteps:=1000000 }) only [e1,e2,e3,e4,t1,t2,rotI,tab0,Int.reduceGE,Int.reduceGT,undef,Int.reduceBNe,Int.reduceBEq,Nat.reduceBNe,Nat.reduceBEq,eqPat,eqTag,reduceCtorEq,Nat.reduceEqDiff,Nat.reduceAdd,Nat.reduceSub,Nat.reduceMul,Nat.reduceDiv,Nat.reduceLeDiff,Nat.reduceLT,Int.reduceToNat,Int.reduceLT,Int.reduceLE,Int.reduceAdd,Int.reduceSub,Int.reduceMul,Int.reduceNeg,Int.reduceEq,Int.reduceNe,evW,baseD,stBlk,touch,clear,untouched,updsW,↓reduceIte,evA,upd,splice,keysOf,kvOf,BC,↓PC]

def gRot:List SV→Option SV
  | [.int .u32 n,.int .i64 (.negSucc k)]=>if k+1≤31 then some (.int .u32 (rotI n (k+1))) else none
  | _=>none
theorem g104 {n:Int} {r:Nat} (h1:1≤r) (h2:r≤31):gRot [.int .u32 n,.int .i64 (-(r:Int))]=some (.int .u32 (rotI n r)):=by
  obtain ⟨k,rfl⟩:∃ k,r=k+1:=⟨r - 1,by omega⟩
  show gRot [.int .u32 n,.int .i64 (.negSucc k)]=_
  simp only [gRot]
  rw [if_pos h2]
def tab1:Tab:=⟨[(172,gRot)],[]⟩
theorem tab1_ok:TabX Tryz.prog tS tab1:=by
  refine ⟨fun x h args r hr=>?_,fun x h=>by simp [tab1] at h⟩
  simp only [tab1,List.mem_singleton] at h
  subst h
  simp only at hr
  unfold gRot at hr
  split at hr
  · rename_i n k
    split at hr
    · rename_i hc
      cases hr
      exact ⟨f104 n (k+1) (by omega) hc,fun η=>by simp only [SV.renL,SV.ren],fun η=>by simp only [SV.renL,SV.ren]⟩
    · cases hr
  · cases hr

def mixI (n:Int) (i j k:Nat):Int:=bitop .xor .u32 (bitop .xor .u32 (rotI n i) (rotI n j)) (rotI n k)
theorem f87 (n:Int) (i j k:Nat) (hi:1≤i∧i≤31) (hj:1≤j∧j≤31) (hk:1≤k∧k≤31) :
    Fun Tryz.prog tS 170 [.int .u32 n,.int .i64 (i:Int),.int .i64 (j:Int),.int .i64 (k:Int)] [] 0 (.int .u32 (mixI n i j k)) [] 0:=by
  refine fun_pureG none (callX tab1) (callX_ok tab1_ok) ck170 (Nat.le_of_ble_eq_true rfl) (fun _=>rfl) ?_
  conv in mkSF _ _=>(reduce;simp only [u8lit,UInt8.reduceOfNat,Int.reduceOfNat,Int.reduceNegSucc])
  rw [exG_mk]
  have G1:=@g104 n i hi.1 hi.2
  have G2:=@g104 n j hj.1 hj.2
  have G3:=@g104 n k hk.1 hk.2
  have w1:IntKind.i64.wrap (0 - (i:Int))=-(i:Int):=by rw [wrap64 (by omega) (by omega)];omega
  have w2:IntKind.i64.wrap (0 - (j:Int))=-(j:Int):=by rw [wrap64 (by omega) (by omega)];omega
  have w3:IntKind.i64.wrap (0 - (k:Int))=-(k:Int):=by rw [wrap64 (by omega) (by omega)];omega
  simp (config:={ maxSteps:=1000000 }) only [w1,w2,w3,↓G1,↓G2,↓G3,mixI,tab1,Int.reduceGE,Int.reduceGT,undef,Int.reduceBNe,Int.reduceBEq,Nat.reduceBNe,Nat.reduceBEq,eqPat,eqTag,reduceCtorEq,Nat.reduceEqDiff,Nat.reduceAdd,Nat.reduceSub,Nat.reduceMul,Nat.reduceDiv,Nat.reduceLeDiff,Nat.reduceLT,Int.reduceToNat,Int.reduceLT,Int.reduceLE,Int.reduceAdd,Int.reduceSub,Int.reduceMul,Int.reduceNeg,Int.reduceEq,Int.reduceNe,evW,baseD,stBlk,touch,clear,untouched,updsW,↓reduceIte,evA,upd,splice,keysOf,kvOf,BC,↓PC]
end Go.Proofs.YtmhkkalbijbplaaGreatDoor

/- SHA-256 of package hash: the schedule. -/
namespace Go.Proofs.YtmhkkalbijbplaaGreatDoor
open Go Go.Sx
set_option maxRecDepth 100000
set_option linter.unusedVariables false
variable {tS:List (Nat × List SV)}
def u8 (n:Int):SV:=.int .u8 n
def addI (a b:Int):Int:=IntKind.u32.wrap (a+b)
def shrI (n:Int) (r:Nat):Int:=n.fdiv (2 ^ (min r IntKind.u32.bits))
def pushB (w c:Int):Int:=bitop .or .u32 (IntKind.u32.wrap (w * 2 ^ (min 8 IntKind.u32.bits))) (IntKind.u32.wrap c)
def be4 (b:List Int) (t:Nat):Int:=pushB (pushB (pushB (pushB 0 (b.getD (4 * t) 0)) (b.getD (4 * t+1) 0)) (b.getD (4 * t+2) 0)) (b.getD (4 * t+3) 0)
def sig0 (p:Int):Int:=bitop .xor .u32 (bitop .xor .u32 (rotI p 7) (rotI p 18)) (shrI p 3)
def sig1 (q:Int):Int:=bitop .xor .u32 (bitop .xor .u32 (rotI q 17) (rotI q 19)) (shrI q 10)
def nxt (b l:List Int) (t:Nat):Int:=
  if t < 16 then be4 b t else addI (addI (addI (l.getD (t - 16) 0) (sig0 (l.getD (t - 15) 0))) (l.getD (t - 7) 0)) (sig1 (l.getD (t - 2) 0))
def schI (b:List Int):Nat→List Int
  | 0=>[]
  | t+1=>schI b t++[nxt b (schI b t) t]
theorem schI_len (b:List Int):∀ t,(schI b t).length=t
  | 0=>rfl
  | t+1=>by simp [schI,schI_len b t]
def cW (b:List Int) (t:Nat):List SV:=(schI b t).map u32++List.replicate (64 - t) (u32 0)
theorem cW_len {b:List Int} {t:Nat} (h:t≤64):(cW b t).length=64:=by simp [cW,schI_len];omega
theorem cW_get {b:List Int} {t j:Nat} (h:j < t):(cW b t)[j]?=some (u32 ((schI b t).getD j 0)):=by
  unfold cW
  rw [List.getElem?_append_left (by simp [schI_len,h])]
  simp [List.getD_eq_getElem?_getD,schI_len,h]
theorem cW_new {b:List Int} {t:Nat} (h:t < 64):(cW b t)[t]?=some (u32 0):=by
  unfold cW
  rw [List.getElem?_append_right (by simp [schI_len]),List.getElem?_replicate,if_pos (by simp only [List.length_map,schI_len];omega)]
def cM (b:List Int) (t:Nat) (v:SV):List SV:=(schI b t).map u32++v :: List.replicate (63 - t) (u32 0)
theorem cW_put {b:List Int} {t:Nat} (h:t < 64) (v:SV):splice (cW b t) t [v]=cM b t v:=by
  unfold splice cW cM
  have e:64 - t=(63 - t)+1:=by omega
  rw [List.take_left' (by simp [schI_len]),e,List.replicate_succ]
  simp [List.drop_append,schI_len]
theorem cM_len {b:List Int} {t:Nat} (h:t < 64) (v:SV):(cM b t v).length=64:=by simp [cM,schI_len];omega
theorem cM_get {b:List Int} {t:Nat} (v:SV):(cM b t v)[t]?=some v:=by
  unfold cM
  rw [List.getElem?_append_right (by simp [schI_len])]
  simp [schI_len]
theorem cM_put {b:List Int} {t:Nat} (v v':SV):splice (cM b t v) t [v']=cM b t v':=by
  unfold splice cM
  rw [List.take_left' (by simp [schI_len])]
  simp [List.drop_append,schI_len]
theorem cM_step {b:List Int} {t:Nat}:cM b t (.int .u32 (nxt b (schI b t) t))=cW b (t+1):=by
  unfold cM cW
  simp only [schI,List.map_append,List.append_assoc,BB]
  rw [show 64 - (t+1)=63 - t by omega];rfl
theorem cW_ren (η:Nat→Nat × Nat) (b:List Int) (t:Nat):SV.renL η (cW b t)=cW b t:=by
  rw [SV.renL_eq]
  unfold cW
  simp [u32,SV.ren]
theorem cM_ren (η:Nat→Nat × Nat) (b:List Int) (t:Nat) (n:Int):SV.renL η (cM b t (.int .u32 n))=cM b t (.int .u32 n):=by
  rw [SV.renL_eq]
  unfold cM
  simp [u32,SV.ren]
theorem u8_ren (η:Nat→Nat × Nat) (b:List Int):SV.renL η (b.map u8)=b.map u8:=by
  rw [SV.renL_eq]
  simp [u8,SV.ren]
def z64:List SV:=List.replicate 64 (.int .u32 0)
theorem z64_ren (η:Nat→Nat × Nat):SV.renL η z64=z64:=by
  rw [SV.renL_eq]
  unfold z64
  rw [List.map_replicate];rfl
theorem cW_all (b:List Int):cW b 64=(schI b 64).map u32:=by simp [cW]
theorem ren_u32 (η:Nat→Nat × Nat) (l:List Int):(SV.agg (l.map u32)).ren η=SV.agg (l.map u32):=by
  simp only [SV.ren,SV.renL_eq,List.map_map]
  congr 1
theorem f86 (b:List Int) (hb:b.length=64) (cap:Option Nat) (hcap:CapOk cap 64):Fun Tryz.prog tS 169 [.slc 0 0 1 64 cap] [(0,⟨.view,b.map u8⟩)] 1 (.agg ((schI b 64).map u32)) [] 1:=by
  refine fun_valG none (callX tab1) (callX_ok tab1_ok) ck169 (Nat.le_of_ble_eq_true rfl) (fun η=>ren_u32 η _) ?_
  conv in mkSF _ _=>(reduce;simp only [u8lit,UInt8.reduceOfNat,Int.reduceOfNat,Int.reduceNegSucc])
  rw [exG_mk]
  simp (config:={ maxSteps:=1000000 }) only [tab1,reduceCtorEq,Nat.reduceEqDiff,Nat.reduceAdd,Int.reduceNeg,↓reduceIte,BC,↓PC]
  rw [den_loop]
  have hW:=fun η t=>cW_ren η b t
  have hM:=fun η t n=>cM_ren η b t n
  have hB:=fun η=>u8_ren η b
  have hz:=fun η=>z64_ren η
  refine den_inv (callX_ok tab1_ok) (σ:=Nat) (fun t=>[(11,.int .i64 (t:Int)),(3,.ptr 2 0),(2,.ptr 1 0),(0,.slc 0 0 1 64 cap)])
    (fun t=>[(2,⟨.own 169,cW b t⟩),(1,⟨.own 169,z64⟩),(0,⟨.view,b.map u8⟩)]) (fun _=>3) (fun t=>t≤64) (fun t=>64 - t) 0 ?_ (Nat.zero_le _) ?_
  · exact ⟨[(0,0),(1,0),(2,0)],by simp only [hW,hB,hz,Nat.reduceAdd,Nat.reduceSub,Nat.reduceLT,Nat.reduceLeDiff,↓reduceIte,reduceCtorEq,BC];trivial,by simp [Nat.reduceAdd,Nat.reduceEqDiff,Nat.reduceLT,Nat.reduceLeDiff,↓reduceIte,reduceCtorEq,BC]⟩
  · intro t ht
    by_cases h64:t < 64
    · have i1:(t:Int) < 64:=by omega
      have i0:(0:Int)≤(t:Int):=by omega
      have wt:IntKind.i64.wrap ((t:Int)+1)=((t+1:Nat):Int):=by rw [wrap64 (by omega) (by omega)];omega
      by_cases h16:t < 16
      · have i2:(t:Int) < 16:=by omega
        have w1:IntKind.i64.wrap (4 * (t:Int))=((4 * t:Nat):Int):=by rw [wrap64 (by omega) (by omega)];omega
        have w2:IntKind.i64.wrap (((4 * t:Nat):Int)+4)=((4 * t+4:Nat):Int):=by rw [wrap64 (by omega) (by omega)];omega
        have k0:4 * t+4≤64:=by omega
        have hlen:(b.map u8).length=64:=by simp [hb]
        have v1:(0:Int)≤((4 * t:Nat):Int):=by omega
        have v2:((4 * t:Nat):Int)≤((4 * t+4:Nat):Int):=by omega
        have v3:((4 * t+4:Nat):Int)≤64:=by omega
        have v4:4 * t+4 - 4 * t=4:=by omega
        simp (config:={ maxSteps:=1000000 }) only [i1,i2,w1,w2,v1,v2,v3,v4,hlen,reduceCtorEq,Nat.reduceEqDiff,Nat.reduceLeDiff,Int.reduceNeg,↓reduceIte,BC,↓PC]
        refine ⟨by cases cap with
          | none=>trivial
          | some c=>exact hcap c rfl,?_⟩
        rw [den_loop]
        refine den_unroll (callX_ok tab1_ok) (callT_point _ _) 5 ?_
        have hj:∀ j,4 * t+j < 64→(b.map u8)[4 * t+j]?=some (u8 (b.getD (4 * t+j) 0)):=by
          intro j hj
          simp [List.getD_eq_getElem?_getD,show 4 * t+j < b.length by omega]
        have h0:=hj 0 (by omega)
        rw [Nat.add_zero] at h0
        have h1:=hj 1 (by omega)
        have h2:=hj 2 (by omega)
        have h3:=hj 3 (by omega)
        have lt1:∀ j,j < 4→4 * t+j < 64:=by omega
        simp (config:={ maxSteps:=1000000 }) only [h0,h1,h2,h3,hlen,i1,i0,cW_len ht,cM_len h64,cW_new h64,cW_put h64,cM_get,cM_put,wt,u8,u32,reduceCtorEq,Nat.reduceEqDiff,Nat.reduceLeDiff,Int.reduceToNat,Int.reduceLT,Int.reduceLE,Int.reduceAdd,Int.reduceNeg,↓reduceIte,upd,BC,↓PC]
        refine ⟨by omega,by omega,by omega,by omega,by omega,by omega,by omega,by omega,t+1,⟨[(0,0),(1,0),(2,0)],?_,by simp [Nat.reduceAdd,Nat.reduceEqDiff,Nat.reduceLT,Nat.reduceLeDiff,↓reduceIte,reduceCtorEq,BC]⟩,by omega,by omega⟩
        rw [← cM_step (b:=b) (t:=t),show nxt b (schI b t) t=be4 b t from if_pos h16]
        unfold be4 pushB
        simp only [hM,hB,hz,Nat.reduceAdd,Nat.reduceSub,Nat.reduceLT,Nat.reduceLeDiff,↓reduceIte,reduceCtorEq,BC]
      · have i2:¬ (t:Int) < 16:=by omega
        have a1:IntKind.i64.wrap ((t:Int) - 15)=((t - 15:Nat):Int):=by rw [wrap64 (by omega) (by omega)];omega
        have a2:IntKind.i64.wrap ((t:Int) - 2)=((t - 2:Nat):Int):=by rw [wrap64 (by omega) (by omega)];omega
        have a3:IntKind.i64.wrap ((t:Int) - 16)=((t - 16:Nat):Int):=by rw [wrap64 (by omega) (by omega)];omega
        have a4:IntKind.i64.wrap ((t:Int) - 7)=((t - 7:Nat):Int):=by rw [wrap64 (by omega) (by omega)];omega
        have b1:(0:Int)≤((t - 15:Nat):Int)∧((t - 15:Nat):Int) < 64:=by omega
        have b2:(0:Int)≤((t - 2:Nat):Int)∧((t - 2:Nat):Int) < 64:=by omega
        have b3:(0:Int)≤((t - 16:Nat):Int)∧((t - 16:Nat):Int) < 64:=by omega
        have b4:(0:Int)≤((t - 7:Nat):Int)∧((t - 7:Nat):Int) < 64:=by omega
        have c1:(cW b t)[t - 15]?=_:=cW_get (by omega)
        have c2:(cW b t)[t - 2]?=_:=cW_get (by omega)
        have c3:(cW b t)[t - 16]?=_:=cW_get (by omega)
        have c4:(cW b t)[t - 7]?=_:=cW_get (by omega)
        have g7:∀ n,gRot [.int .u32 n,.int .i64 (-7)]=some (.int .u32 (rotI n 7)):=fun n=>g104 (r:=7) (by decide) (by decide)
        have g18:∀ n,gRot [.int .u32 n,.int .i64 (-18)]=some (.int .u32 (rotI n 18)):=fun n=>g104 (r:=18) (by decide) (by decide)
        have g17:∀ n,gRot [.int .u32 n,.int .i64 (-17)]=some (.int .u32 (rotI n 17)):=fun n=>g104 (r:=17) (by decide) (by decide)
        have g19:∀ n,gRot [.int .u32 n,.int .i64 (-19)]=some (.int .u32 (rotI n 19)):=fun n=>g104 (r:=19) (by decide) (by decide)
        simp (config:={ maxSteps:=1000000 }) only [i1,i2,i0,a1,a2,a3,a4,b1.1,b2.1,b3.1,b4.1,b1.2,b2.2,b3.2,b4.2,c1,c2,c3,c4,↓g7,↓g18,↓g17,↓g19,cW_len ht,cW_put h64,wt,u32,reduceCtorEq,Nat.reduceEqDiff,Nat.reduceLeDiff,Int.reduceToNat,Int.reduceLE,Int.reduceNeg,↓reduceIte,upd,BC,↓PC]
        refine ⟨by omega,t+1,⟨[(0,0),(1,0),(2,0)],?_,by simp [Nat.reduceAdd,Nat.reduceEqDiff,Nat.reduceLT,Nat.reduceLeDiff,↓reduceIte,reduceCtorEq,BC]⟩,by omega,by omega⟩
        rw [← cM_step (b:=b) (t:=t),show nxt b (schI b t) t=_ from if_neg h16]
        unfold addI sig0 sig1 shrI
        simp only [hM,hB,hz,Nat.reduceAdd,Nat.reduceSub,Nat.reduceLT,Nat.reduceLeDiff,↓reduceIte,reduceCtorEq,BC]
    · obtain rfl:t=64:=by omega
      simp (config:={ maxSteps:=1000000 }) only [reduceCtorEq,Nat.reduceEqDiff,Int.reduceLT,Int.reduceNeg,↓reduceIte,upd,splice,BC,↓PC]
      have hl:=cW_len (b:=b) (Nat.le_refl 64)
      have hz:z64.length=64:=by simp [z64]
      have hd:List.drop 64 z64=[]:=List.drop_of_length_le (by omega)
      rw [List.take_of_length_le (by omega:(cW b 64).length≤64),hl,hd,List.append_nil,hl,hz,List.take_of_length_le (by omega:(cW b 64).length≤64),cW_all]
      exact ⟨Nat.le_refl _,rfl,Nat.le_refl _,Nat.le_refl _,rfl⟩
end Go.Proofs.YtmhkkalbijbplaaGreatDoor

/- SHA-256 of package hash: a block. -/
namespace Go.Proofs.YtmhkkalbijbplaaGreatDoor
open Go Go.Sx
set_option maxRecDepth 100000
set_option linter.unusedSimpArgs false
set_option linter.unusedVariables false
variable {tS:List (Nat × List SV)}
def unI8:List SV→Option (List Int)
  | []=>some []
  | .int .u8 n :: l=>match unI8 l with
    | some r=>some (n :: r)
    | none=>none
  | _=>none
theorem unI8_map:∀ b:List Int,unI8 (b.map u8)=some b
  | []=>rfl
  | n :: b=>by simp only [List.map_cons,u8,unI8];rw [show List.map u8 b=b.map u8 from rfl,unI8_map b]
theorem unI8_some:∀ {l:List SV} {b:List Int},unI8 l=some b→l=b.map u8
  | [],b,h=>by simp only [unI8] at h;cases h;rfl
  | x :: l,b,h=>by
    unfold unI8 at h
    split at h
    · rename_i he;cases he
    · rename_i n l' he
      cases he
      split at h
      · rename_i r hr;cases h;rw [unI8_some hr];rfl
      · cases h
    · cases h
def gSch:GS
  | [.slc 0 0 1 64 cap],[(0,⟨.view,cells⟩)]=>match unI8 cells with
    | some b=>match Nat.beq b.length 64,capB cap 64 with
      | true,true=>some (.agg ((schI b 64).map u32),[],1)
      | _,_=>none
    | none=>none
  | _,_=>none
theorem gSch_ok:FunS Tryz.prog tS 169 gSch:=by
  intro a0 m0 r m1 n1 h
  unfold gSch at h
  split at h
  · rename_i cap cells
    split at h
    · rename_i b hb
      split at h
      · rename_i h1 h2
        cases h
        rw [unI8_some hb]
        exact ⟨f86 b (Nat.eq_of_beq_eq_true h1) cap (capB_ok h2),by simp [freshB]⟩
      · cases h
    · cases h
  · cases h
end Go.Proofs.YtmhkkalbijbplaaGreatDoor

/- SHA-256 of package hash: the compression of a block. -/
namespace Go.Proofs.YtmhkkalbijbplaaGreatDoor
open Go Go.Sx
set_option maxRecDepth 100000
set_option linter.unusedSimpArgs false
set_option linter.unusedVariables false
variable {tS:List (Nat × List SV)}
def andI (a b:Int):Int:=bitop .and .u32 a b
def xorI (a b:Int):Int:=bitop .xor .u32 a b
def notI (a:Int):Int:=bitop .xor .u32 (if IntKind.u32.signed then -1 else IntKind.u32.max) a
structure V8 where
  a:Int
  b:Int
  c:Int
  d:Int
  e:Int
  f:Int
  g:Int
  h:Int
def V8.round (s:V8) (w k:Int):V8:=
  let x:=addI (addI (addI (addI s.h (mixI s.e 6 11 25)) (xorI (andI s.e s.f) (andI (notI s.e) s.g))) k) w
  let y:=addI (mixI s.a 2 13 22) (xorI (xorI (andI s.a s.b) (andI s.a s.c)) (andI s.b s.c))
  ⟨addI x y,s.a,s.b,s.c,addI s.d x,s.e,s.f,s.g⟩
def V8.rounds (w:List Int) (s:V8):Nat→V8
  | 0=>s
  | t+1=>(V8.rounds w s t).round (w.getD t 0) (kc.getD t 0)
def V8.l (s:V8):List Int:=[s.a,s.b,s.c,s.d,s.e,s.f,s.g,s.h]
def V8.add (s v:V8):V8:=⟨addI s.a v.a,addI s.b v.b,addI s.c v.c,addI s.d v.d,addI s.e v.e,addI s.f v.f,addI s.g v.g,addI s.h v.h⟩
def comp (s:V8) (b:List Int):V8:=s.add (V8.rounds (schI b 64) s 64)
def gMix:List SV→Option SV
  | [.int .u32 n,.int .i64 (.ofNat i),.int .i64 (.ofNat j),.int .i64 (.ofNat k)]=>if (1≤i∧i≤31)∧(1≤j∧j≤31)∧(1≤k∧k≤31) then some (.int .u32 (mixI n i j k)) else none
  | _=>none
def tab2:Tab:=⟨[(172,gRot),(170,gMix)],[]⟩
theorem tab2_ok:TabX Tryz.prog tS tab2:=by
  refine ⟨fun x h args r hr=>?_,fun x h=>by simp [tab2] at h⟩
  simp only [tab2,List.mem_cons,List.not_mem_nil,or_false] at h
  rcases h with rfl | rfl
  · exact tab1_ok.p _ (by simp [tab1]) args r hr
  · simp only at hr
    unfold gMix at hr
    split at hr
    · split at hr
      · rename_i hc
        cases hr
        exact ⟨f87 _ _ _ _ hc.1 hc.2.1 hc.2.2,fun η=>by simp only [SV.renL,SV.ren],fun η=>by simp only [SV.renL,SV.ren]⟩
      · cases hr
    · cases hr
def callH:CallT:=callS [(169,gSch)] (callX tab2)
theorem callH_ok:∀ f a m n K,callH f a m n K→callT Tryz.prog tS f a m n K:=
  callS_ok (fun x h=>by simp only [List.mem_singleton] at h;subst h;exact gSch_ok) (callX_ok tab2_ok)
end Go.Proofs.YtmhkkalbijbplaaGreatDoor

/- SHA-256 of package hash: compress. -/
namespace Go.Proofs.YtmhkkalbijbplaaGreatDoor
open Go Go.Sx
set_option maxRecDepth 100000
set_option linter.unusedVariables false
theorem unI8_len {b:List Int} (hb:b.length=64):Nat.beq b.length 64=true:=by rw [hb];rfl
theorem flat_u8:∀ b:List Int,SV.flatL (b.map u8)=true
  | []=>rfl
  | n :: b=>by simp only [List.map_cons,SV.flatL,u8,SV.flat,Bool.true_and];exact flat_u8 b
def z8:List SV:=[.int .u32 0,.int .u32 0,.int .u32 0,.int .u32 0,.int .u32 0,.int .u32 0,.int .u32 0,.int .u32 0]
theorem ren_w (η:Nat→Nat × Nat) (l:List Int):SV.renL η (l.map u32)=l.map u32:=by
  simp only [SV.renL_eq,List.map_map]
  congr 1
theorem look0:lookT tH 1=some (kc.map u32):=(rfl)
theorem kc_len:(kc.map u32).length=64:=(rfl)
theorem kc_take:List.take 64 (kc.map u32)=kc.map u32:=(rfl)
set_option maxHeartbeats 4000000 in
theorem f73 (s:V8) (b:List Int) (hb:b.length=64) (cap:Option Nat) (hcap:CapOk cap 64) :
    Fun Tryz.prog tH 167 [.agg (s.l.map u32),.slc 0 0 1 64 cap] [(0,⟨.view,b.map u8⟩)] 1 (.agg ((comp s b).l.map u32)) [] 1:=by
  refine fun_valG none callH callH_ok ck167 (Nat.le_of_ble_eq_true rfl) (fun η=>ren_u32 η _) ?_
  conv in mkSF _ _=>(reduce;simp only [u8lit,UInt8.reduceOfNat,Int.reduceOfNat,Int.reduceNegSucc])
  rw [exG_mk]
  obtain ⟨a0,a1,a2,a3,a4,a5,a6,a7⟩:=s
  have hlen:(b.map u8).length=64:=by simp [hb]
  have hfl:=flat_u8 b
  have htk:List.take 64 (b.map u8)=b.map u8:=List.take_of_length_le (by omega)
  have hl64:=unI8_len hb
  have hcb:capB cap 64=true:=by
    cases cap with
    | none=>rfl
    | some c=>exact Nat.ble_eq_true_of_le (hcap c rfl)
  have hw:=fun η l=>ren_w η l
  have hsl:(List.map u32 (schI b 64)).length=64:=by simp [schI_len]
  have hst:List.take 64 (List.map u32 (schI b 64))=List.map u32 (schI b 64):=List.take_of_length_le (by omega)
  have rW:∀ η,SV.renL η (List.map u32 (schI b 64))=List.map u32 (schI b 64):=fun η=>ren_w η _
  have rK:∀ η,SV.renL η (List.map u32 kc)=List.map u32 kc:=fun η=>ren_w η _
  have rB:∀ η,SV.renL η (List.map u8 b)=List.map u8 b:=fun η=>u8_ren η b
  have ru:∀ η n,(u32 n).ren η=u32 n:=fun _ _=>rfl
  have d64:List.drop 64 (List.replicate 64 (SV.int .u32 0))=[]:=rfl
  generalize hRe:(fun t=>V8.rounds (schI b 64) ⟨a0,a1,a2,a3,a4,a5,a6,a7⟩ t)=R
  have hR0:R 0=⟨a0,a1,a2,a3,a4,a5,a6,a7⟩:=by rw [← hRe];rfl
  generalize hW:List.map u32 (schI b 64)=W at *
  simp (config:={ maxSteps:=1000000 }) only [callH,tab2,gSch,unI8_map,hlen,hfl,htk,hl64,hcb,V8.l,hW,look0,kc_len,kc_take,beq_self_eq_true,and_self,Nat.reduceBEq,lookF,reduceCtorEq,Nat.reduceEqDiff,Nat.reduceAdd,Nat.reduceSub,Nat.reduceLeDiff,Nat.reduceLT,Int.reduceToNat,Int.reduceLE,eq_self,Int.cast_ofNat_Int, true_and,and_true,List.getElem?_cons_zero,List.getElem?_cons_succ,List.length_cons,List.length_nil,List.append_nil,List.nil_append,List.cons_append,List.take_succ_cons,List.take_zero,List.drop_succ_cons,List.drop_zero,List.take_nil,List.drop_nil,List.reverse_cons,List.reverse_nil,List.map_cons,List.map_nil,Nat.zero_add,Nat.add_zero,frOf,den_o0,den_o1,kont_app,den_reg,den_regW,den_W,evW,baseD,stBlk,touch,clear,untouched,updsW,List.contains_cons,List.contains_nil,Bool.or_false,Bool.or_self,Bool.or_true,den_seq,den_block,↓reduceIte,↓e_box,↓e_load,↓e_store,↓e_arrAt,↓e_mv,↓e_new,↓e_slcA,↓e_call,↓u_onOpt0,↓u_onOpt1,Opd.ev,Sx.get,put,putO,del,dels,frD,memD,pickD,kills,views,newer,rd,upd,splice,SV.cells?,SV.one,↓u_callS,canLW,canV,canC,belowL,apH,apH1,SV.ren,newOwn,targets,rms,Kind.isOwn,Nat.sub_zero,Nat.le_refl,Nat.mul_one,Int.cast_ofNat_Int]
  refine ⟨by rw [rW];exact hsl,?_⟩
  rw [rW]
  rw [den_loop]
  refine den_inv callH_ok (σ:=Nat) (fun t=>[(22,.int .i64 (t:Int)),(21,.agg (kc.map u32)),(7,.ptr 5 0),(6,.ptr 4 0),(5,.ptr 3 0),(4,.ptr 2 0),(2,.ptr 1 0)])
    (fun t=>[(5,⟨.own 174,[u32 (R t).e,u32 (R t).f,u32 (R t).g,u32 (R t).h]⟩),(4,⟨.own 174,[u32 (R t).a,u32 (R t).b,u32 (R t).c,u32 (R t).d]⟩),(3,⟨.own 169,W⟩),
      (2,⟨.own 149,z8⟩),(1,⟨.own 149,[u32 a0,u32 a1,u32 a2,u32 a3,u32 a4,u32 a5,u32 a6,u32 a7]⟩),(0,⟨.view,b.map u8⟩)]) (fun _=>6) (fun t=>t≤64) (fun t=>64 - t) 0 ?_ (Nat.zero_le _) ?_
  · refine ⟨[(0,0),(1,0),(2,0),(3,0),(4,0),(5,0)],?_,?_⟩
    · simp only [rW,ru,rB,hR0,hsl,z8,EntM,compat,apartM,keysBelow,eta,idHs,rd,SV.ren,SV.renL,Option.getD_some,List.getElem?_cons_zero,List.getElem?_cons_succ,List.length_cons,List.length_nil,Nat.zero_add,Nat.add_zero,Nat.reduceAdd,Nat.reduceSub,Nat.reduceEqDiff,Nat.reduceLT,Nat.reduceLeDiff,↓reduceIte,Kind.isOwn,List.take_succ_cons,List.take_zero,List.nil_append,and_self,and_true,true_and,exists_eq_left',Option.some.injEq,List.drop_zero,List.take_length,Nat.le_refl,ne_eq,not_false_eq_true,implies_true,List.not_mem_nil,false_imp_iff,Bool.false_or,Bool.true_or,forall_const,reduceCtorEq,List.mem_cons,or_false,forall_eq_or_imp,forall_eq,Nat.succ_ne_self]
      refine (congrArg (W++·) (List.drop_of_length_le ?_)).trans (List.append_nil W)
      exact Nat.le_refl 64
    · simp only [rK,frEnt,geto,eta,SV.ren,Option.getD_some,List.getElem?_cons_zero,List.getElem?_cons_succ,List.length_cons,List.length_nil,Nat.zero_add,Nat.add_zero,Nat.reduceAdd,Nat.reduceSub,Nat.reduceEqDiff,↓reduceIte,and_self,and_true,Option.some.injEq,Nat.succ_ne_self]
      rfl
  · intro t ht
    by_cases h64:t < 64
    · have c1:(t:Int) < 64:=by omega
      have c2:(0:Int)≤(t:Int):=by omega
      have wt:IntKind.i64.wrap ((t:Int)+1)=((t+1:Nat):Int):=by rw [wrap64_eq (by omega) (by omega)];omega
      have gk:(List.map u32 kc)[t]?=some (u32 (kc.getD t 0)):=by
        have:kc.length=64:=rfl
        simp [List.getD_eq_getElem?_getD,show t < kc.length by omega]
      have gw:W[t]?=some (u32 ((schI b 64).getD t 0)):=by
        rw [← hW]
        simp [List.getD_eq_getElem?_getD,schI_len,h64]
      have hR1:R (t+1)=(R t).round ((schI b 64).getD t 0) (kc.getD t 0):=by rw [← hRe];rfl
      generalize hk:kc.getD t 0=k at *
      generalize hwt:(schI b 64).getD t 0=w at *
      rcases hRt:R t with ⟨a,bb,c,d,e,f,g,h⟩
      simp only
      have m1:∀ n,gMix [.int .u32 n,.int .i64 6,.int .i64 11,.int .i64 25]=some (.int .u32 (mixI n 6 11 25)):=fun n=>rfl
      have m2:∀ n,gMix [.int .u32 n,.int .i64 2,.int .i64 13,.int .i64 22]=some (.int .u32 (mixI n 2 13 22)):=fun n=>rfl
      simp (config:={ maxSteps:=1000000 }) only [↓m1,↓m2,c1,c2,gk,gw,wt,u32,SV.flatL,SV.flat,Bool.and_self,↓u_callX,lookF,again_n,reduceCtorEq,Nat.reduceEqDiff,Nat.reduceAdd,Nat.reduceLeDiff,Int.reduceToNat,Int.reduceLT,Int.reduceLE,Int.reduceNeg,eq_self,decide_true,Int.cast_ofNat_Int, true_and,List.getElem?_cons_zero,List.getElem?_cons_succ,List.length_cons,List.length_nil,List.append_nil,List.nil_append,List.cons_append,List.take_succ_cons,List.take_zero,List.drop_succ_cons,List.drop_zero,List.drop_nil,List.map_cons,List.map_nil,Nat.zero_add,Nat.add_zero,den_nil,den_o0,↓gd_tt,den_o1,kont_app,den_skip,den_reg,den_regP,den_seq,den_cond,den_block,den_b,↓reduceIte,↓e_build,↓e_load,↓e_store,↓e_idxV,↓e_mv,↓e_idxA,↓e_bin,↓e_un,↓e_callp,↓u_onInt,↓u_binV,↓binI,↓fillE,Opd.ev,Sx.get,put,putO,del,dels,rd,upd,splice,SV.cells?,SV.one,↓u_callS,Nat.le_refl,Int.toNat_natCast,Nat.mul_one,Int.cast_ofNat_Int]
      rw [hRt] at hR1
      refine ⟨t+1,⟨[(0,0),(1,0),(2,0),(3,0),(4,0),(5,0)],?_,?_⟩,by omega,by omega⟩
      · simp only [hR1,V8.round,addI,xorI,andI,notI,rW,rB,z8,EntM,compat,apartM,keysBelow,eta,idHs,rd,SV.ren,SV.renL,Option.getD_some,List.getElem?_cons_zero,List.getElem?_cons_succ,List.length_cons,List.length_nil,Nat.zero_add,Nat.add_zero,Nat.reduceAdd,Nat.reduceSub,Nat.reduceEqDiff,Nat.reduceLT,Nat.reduceLeDiff,↓reduceIte,Kind.isOwn,List.take_succ_cons,List.take_zero,List.nil_append,and_self,true_and,exists_eq_left',Option.some.injEq,List.drop_zero,List.take_length,Nat.le_refl,ne_eq,not_false_eq_true,implies_true,List.not_mem_nil,false_imp_iff,Bool.false_or,Bool.true_or,forall_const,reduceCtorEq,List.mem_cons,or_false,forall_eq_or_imp,forall_eq,Nat.succ_ne_self]
      · simp only [rK,frEnt,geto,eta,SV.ren,Option.getD_some,List.getElem?_cons_zero,List.getElem?_cons_succ,List.length_cons,List.length_nil,Nat.zero_add,Nat.add_zero,Nat.reduceAdd,Nat.reduceSub,Nat.reduceEqDiff,↓reduceIte,and_self,Nat.succ_ne_self]
    · obtain rfl:t=64:=by omega
      rcases hRt:R 64 with ⟨a,bb,c,d,e,f,g,h⟩
      have hcomp:comp ⟨a0,a1,a2,a3,a4,a5,a6,a7⟩ b=V8.add ⟨a0,a1,a2,a3,a4,a5,a6,a7⟩ ⟨a,bb,c,d,e,f,g,h⟩:=by
        unfold comp;rw [← hRt,← hRe]
      simp only
      simp (config:={ maxSteps:=1000000 }) only [u32,again_x,Nat.reduceEqDiff,Int.reduceLT,eq_self,decide_false,Int.cast_ofNat_Int, true_and,den_nil,den_o0,↓gd_ft,den_o1,kont_app,den_reg,den_seq,den_cond,den_block,den_exit,den_xb,den_xc,↓reduceIte,↓e_mv,↓e_bin,↓u_binV,↓binI,Opd.ev,Sx.get,put,putO,del,dels,Int.cast_ofNat_Int]
      rw [den_loop]
      refine den_unroll callH_ok (callT_point _ _) 5 ?_
      simp (config:={ maxSteps:=1000000 }) only [z8,hcomp,V8.add,addI,and_self,reduceCtorEq,Nat.reduceEqDiff,Nat.reduceAdd,Nat.reduceLeDiff,Int.reduceToNat,Int.reduceLT,Int.reduceLE,Int.reduceAdd,Int.reduceNeg,wrap64,eq_self,decide_true,decide_false,Int.cast_ofNat_Int,List.getElem?_cons_zero,List.getElem?_cons_succ,List.length_cons,List.length_nil,List.append_nil,List.nil_append,List.cons_append,List.take_succ_cons,List.take_zero,List.drop_succ_cons,List.drop_zero,List.take_nil,List.drop_nil,List.map_cons,List.map_nil,Nat.zero_add,Nat.add_zero,den_nil,den_o0,↓gd_tt,↓gd_ft,den_o1,kont_app,den_skip,den_reg,den_regP,den_seq,den_cond,den_block,den_exit,den_ret,den_b,den_xb,den_xc,den_xu,den_u,finP_r,↓reduceIte,↓e_load,↓e_store,↓e_mv,↓e_idxA,↓e_bin,↓u_onInt,↓u_binV,↓binI,↓evRes,Opd.ev,Sx.get,put,putO,del,dels,rd,upd,splice,SV.cells?,SV.one,retOf,Nat.le_refl,Nat.mul_one,Int.cast_ofNat_Int]
end Go.Proofs.YtmhkkalbijbplaaGreatDoor

/- SHA-256 of package hash: compress, as a contract by value. -/
namespace Go.Proofs.YtmhkkalbijbplaaGreatDoor
open Go Go.Sx
set_option maxRecDepth 100000
set_option linter.unusedSimpArgs false
set_option linter.unusedVariables false
def g73:GS
  | [.agg [.int .u32 a,.int .u32 b,.int .u32 c,.int .u32 d,.int .u32 e,.int .u32 f,.int .u32 g,.int .u32 h],.slc 0 0 1 64 cap],[(0,⟨.view,cells⟩)]=>match unI8 cells with
    | some bl=>match Nat.beq bl.length 64,capB cap 64 with
      | true,true=>some (.agg ((comp ⟨a,b,c,d,e,f,g,h⟩ bl).l.map u32),[],1)
      | _,_=>none
    | none=>none
  | _,_=>none
theorem g73_ok:FunS Tryz.prog tH 167 g73:=by
  intro a0 m0 r m1 n1 hh
  unfold g73 at hh
  split at hh
  · rename_i a b c d e f g h cap cells
    split at hh
    · rename_i bl hb
      split at hh
      · rename_i h1 h2
        cases hh
        rw [unI8_some hb]
        exact ⟨f73 ⟨a,b,c,d,e,f,g,h⟩ bl (Nat.eq_of_beq_eq_true h1) cap (capB_ok h2),by simp [freshB]⟩
      · cases hh
    · cases hh
  · cases hh
end Go.Proofs.YtmhkkalbijbplaaGreatDoor

/- SHA-256 as a stream: what Add and Sum compute, byte by byte. -/
namespace Go.Proofs.YtmhkkalbijbplaaGreatDoor
open Go Go.Sx
set_option maxRecDepth 100000
set_option linter.unusedSimpArgs false
set_option linter.unusedVariables false
def byI (b:List UInt8):List Int:=b.map (fun x=>(x.toNat:Int))
theorem bys_u8 (b:List UInt8):(byI b).map u8=bys b:=by
  simp only [byI,bys,List.map_map]
  rfl
theorem byI_len (b:List UInt8):(byI b).length=b.length:=by simp [byI]
structure HS where
  s:V8
  b:List UInt8
  n:Nat
def HS.push (h:HS) (c:UInt8):HS:=
  ⟨if h.n % 64=63 then comp h.s (byI (h.b.set (h.n % 64) c)) else h.s,h.b.set (h.n % 64) c,h.n+1⟩
def HS.add (h:HS) (t:List UInt8):HS:=t.foldl HS.push h
theorem HS.add_nil (h:HS):h.add []=h:=rfl
theorem HS.add_cons (h:HS) (c:UInt8) (t:List UInt8):h.add (c :: t)=(h.push c).add t:=rfl
theorem HS.add_app (h:HS) (a b:List UInt8):(h.add a).add b=h.add (a++b):=by
  unfold HS.add
  rw [List.foldl_append]
theorem HS.add_len:∀ (t:List UInt8) (h:HS),(h.add t).b.length=h.b.length
  | [],h=>rfl
  | c :: t,h=>by rw [HS.add_cons,HS.add_len t];simp [HS.push]
theorem HS.add_n:∀ (t:List UInt8) (h:HS),(h.add t).n=h.n+t.length
  | [],h=>rfl
  | c :: t,h=>by rw [HS.add_cons,HS.add_n t];simp [HS.push];omega
def over (b t:List UInt8) (at':Nat):List UInt8:=b.take at'++t++b.drop (at'+t.length)
theorem over_set {b t:List UInt8} {k:Nat} {c:UInt8} (hk:k < b.length):over (b.set k c) t (k+1)=over b (c :: t) k:=by
  unfold over
  have e1:(b.set k c).take (k+1)=b.take k++[c]:=by
    rw [List.take_add_one,List.take_set_of_le (by omega)]
    simp [hk]
  have e2:(b.set k c).drop (k+1+t.length)=b.drop (k+(c :: t).length):=by
    rw [List.drop_set_of_lt (by omega)]
    congr 1
    simp;omega
  rw [e1,e2]
  simp
theorem HS.add_chunk:∀ (t:List UInt8) (h:HS),h.b.length=64→t≠[]→h.n % 64+t.length≤64 →
    h.add t=⟨if h.n % 64+t.length=64 then comp h.s (byI (over h.b t (h.n % 64))) else h.s,over h.b t (h.n % 64),h.n+t.length⟩
  | [],h,_,h0,_=>absurd rfl h0
  | [c],h,hb,_,hl=>by
    rw [HS.add_cons,HS.add_nil]
    unfold HS.push
    have e:h.b.set (h.n % 64) c=over h.b [c] (h.n % 64):=by
      have:=over_set (b:=h.b) (t:=[]) (k:=h.n % 64) (c:=c) (by omega)
      rw [← this]
      unfold over
      simp
    rw [e]
    simp only [List.length_cons,List.length_nil]
    congr 1
    by_cases h63:h.n % 64=63
    · rw [if_pos h63,if_pos (by omega)]
    · rw [if_neg h63,if_neg (by omega)]
  | c :: d :: t,h,hb,_,hl=>by
    simp only [List.length_cons] at hl
    rw [HS.add_cons]
    have e:h.push c=⟨h.s,h.b.set (h.n % 64) c,h.n+1⟩:=by
      unfold HS.push
      rw [if_neg (by omega)]
    rw [e,HS.add_chunk (d :: t) _ (by simp [hb]) (by simp) (by simp only [List.length_cons];omega)]
    have e2:(h.n+1) % 64=h.n % 64+1:=by omega
    simp only [e2]
    rw [over_set (by omega)]
    simp only [List.length_cons]
    congr 1
    · by_cases hh:h.n % 64+(t.length+1+1)=64
      · rw [if_pos hh,if_pos (by omega)]
      · rw [if_neg hh,if_neg (by omega)]
    · omega
theorem over_all {b t:List UInt8} (h:b.length≤t.length):over b t 0=t:=by
  unfold over
  rw [List.drop_of_length_le (by omega)]
  simp
theorem HS.add_block (h:HS) (t:List UInt8) (hb:h.b.length=64) (hn:h.n % 64=0) (ht:t.length=64):h.add t=⟨comp h.s (byI t),t,h.n+64⟩:=by
  rw [HS.add_chunk t h hb (by intro e;rw [e] at ht;simp at ht) (by omega),hn,if_pos (by omega),over_all (by omega),ht]
def iv:V8:=⟨1779033703,3144134277,1013904242,2773480762,1359893119,2600822924,528734635,1541459225⟩
def hs0:HS:=⟨iv,List.replicate 64 0,0⟩
def valS (m:List UInt8):V8:=(hs0.add m).s
theorem hs0_len (m:List UInt8):(hs0.add m).b.length=64:=by rw [HS.add_len];simp [hs0]
theorem hs0_n (m:List UInt8):(hs0.add m).n=m.length:=by rw [HS.add_n];simp [hs0]
theorem valS_step {m:List UInt8} {t:Nat} (h:64 * t+64≤m.length):valS (m.take (64 * (t+1)))=comp (valS (m.take (64 * t))) (byI ((m.drop (64 * t)).take 64)):=by
  unfold valS
  rw [show 64 * (t+1)=64 * t+64 by omega,List.take_add,← HS.add_app,HS.add_block _ _ (hs0_len _) (by rw [hs0_n];simp;omega) (by simp;omega)]
def padZ (n:Nat):Nat:=(119 - n % 64) % 64
def lenB (n:Nat) (i:Nat):UInt8:=wrapB ((IntKind.u64.wrap (8 * (n:Int))).fdiv (2 ^ (min (56 - 8 * i) IntKind.u64.bits)))
def lenBs (n:Nat):List UInt8:=(List.range 8).map (lenB n)
def padS (n:Nat):List UInt8:=128 :: List.replicate (padZ n) 0++lenBs n
theorem padZ_le (n:Nat):padZ n < 64:=by unfold padZ;omega
theorem padZ_ok (n:Nat):(n+(1+padZ n)) % 64=56:=by unfold padZ;omega
theorem padZ_not {n j:Nat} (h:j < padZ n):(n+(1+j)) % 64≠56:=by unfold padZ at h;omega
theorem lenBs_len (n:Nat):(lenBs n).length=8:=by simp [lenBs]
theorem padS_len (n:Nat):(padS n).length=padZ n+9:=by simp [padS,lenBs_len]
theorem padS_mod (n:Nat):(n+(padS n).length) % 64=0:=by rw [padS_len];unfold padZ;omega
def outB (s:V8) (i:Nat):UInt8:=wrapB ((s.l.getD (i / 4) 0).fdiv (2 ^ (min (24 - 8 * (i % 4)) IntKind.u32.bits)))
def outS (s:V8):List UInt8:=(List.range 32).map (outB s)
theorem outS_len (s:V8):(outS s).length=32:=by simp [outS]
def sumS (m:List UInt8):List UInt8:=outS (valS (m++padS m.length))

-- streams as values
def HS.l (h:HS):List SV:=h.s.l.map u32++(bys h.b++[.int .u64 (h.n:Int)])
theorem HS.l_len {h:HS} (hb:h.b.length=64):h.l.length=73:=by
  unfold HS.l
  simp [V8.l,len_bytes,hb]
theorem HS.l_n {h:HS} (hb:h.b.length=64):h.l[72]?=some (.int .u64 (h.n:Int)):=by
  unfold HS.l
  rw [List.getElem?_append_right (by simp [V8.l]),List.getElem?_append_right (by simp [V8.l,len_bytes,hb])]
  simp [V8.l,len_bytes,hb]
theorem HS.l_s {h:HS} {q:Nat} (hq:q < 8):h.l[q]?=some (.int .u32 (h.s.l.getD q 0)):=by
  unfold HS.l
  have hl:h.s.l.length=8:=rfl
  rw [List.getElem?_append_left (by simp [hl,hq])]
  simp [List.getD_eq_getElem?_getD,hl,hq,u32]
theorem HS.l_take {h:HS} (hb:h.b.length=64):List.take 73 h.l=h.l:=List.take_of_length_le (by rw [HS.l_len hb];omega)
theorem flat_u32:∀ b:List Int,SV.flatL (b.map u32)=true
  | []=>rfl
  | n :: b=>by simp only [List.map_cons,SV.flatL,u32,SV.flat,Bool.true_and];exact flat_u32 b
theorem flatL_app:∀ {a b:List SV},SV.flatL a=true→SV.flatL b=true→SV.flatL (a++b)=true
  | [],b,_,h=>h
  | x :: a,b,h1,h2=>by
    simp only [List.cons_append,SV.flatL,Bool.and_eq_true] at h1 ⊢
    exact ⟨h1.1,flatL_app h1.2 h2⟩
theorem HS.l_flat (h:HS):SV.flatL h.l=true:=by
  unfold HS.l
  exact flatL_app (flat_u32 _) (flatL_app (flat_bytes _) rfl)
theorem HS.l_ren (η:Nat→Nat × Nat) (h:HS):SV.renL η h.l=h.l:=SV.flatL_ren η _ (HS.l_flat h)
def unHS:List SV→Option HS
  | .int .u32 a :: .int .u32 b :: .int .u32 c :: .int .u32 d :: .int .u32 e :: .int .u32 f :: .int .u32 g :: .int .u32 h :: r=>match unB (r.take 64),r.drop 64 with
    | some bl,[.int .u64 (.ofNat n)]=>some ⟨⟨a,b,c,d,e,f,g,h⟩,bl,n⟩
    | _,_=>none
  | _=>none
theorem unHS_l {h:HS} (hb:h.b.length=64):unHS h.l=some h:=by
  obtain ⟨⟨a,b,c,d,e,f,g,k⟩,bl,n⟩:=h
  simp only at hb
  unfold HS.l
  simp only [V8.l,u32,unHS,BB]
  rw [List.take_left' (by simp [len_bytes,hb]),List.drop_left' (by simp [len_bytes,hb]),unB_bytes]
theorem unHS_some {l:List SV} {h:HS} (hh:unHS l=some h):l=h.l:=by
  unfold unHS at hh
  split at hh
  · rename_i a b c d e f g k r
    split at hh
    · rename_i bl n hb hd
      cases hh
      unfold HS.l
      simp only [V8.l,u32,BB]
      have:=unB_some hb
      rw [← this]
      have e2:r=r.take 64++r.drop 64:=(List.take_append_drop 64 r).symm
      rw [hd] at e2
      rw [show ((n:Nat):Int)=Int.ofNat n from rfl,← e2]
    · cases hh
  · cases hh
end Go.Proofs.YtmhkkalbijbplaaGreatDoor

/- The stream of package hash: Begin and Add. -/
namespace Go.Proofs.YtmhkkalbijbplaaGreatDoor
open Go Go.Sx
set_option maxRecDepth 100000
set_option linter.unusedVariables false
variable {tS:List (Nat × List SV)}
theorem f52:Fun Tryz.prog tS 150 [] [] 0 (.agg hs0.l) [] 0:=by
  refine fun_pureG none cF cF_ok ck150 (Nat.le_of_ble_eq_true rfl) (fun η=>by simp only [SV.ren,HS.l_ren]) ?_
  conv in mkSF _ _=>(reduce;simp only [u8lit,UInt8.reduceOfNat,Int.reduceOfNat,Int.reduceNegSucc])
  rw [exG_mk]
  simp (config:={ maxSteps:=1000000 }) only [reduceCtorEq,Nat.reduceEqDiff,Nat.reduceAdd,Nat.reduceLeDiff,eq_self,frOf,↓reduceIte,↓fillE,↓evRes,Opd.ev,Sx.get,put,putO,del,dels,rd,upd,splice,SV.cells?,SV.one,retOf,BB,↓PB]
  rfl
def tabSt:List (FuncId × GS):=[(167,g73)]
theorem tabSt_ok:∀ x ∈ tabSt,FunS Tryz.prog tH x.1 x.2:=by
  intro x hx
  simp only [tabSt,List.mem_cons,List.not_mem_nil,or_false] at hx
  subst hx
  exact g73_ok
def cSt:CallT:=callS tabSt cF
theorem cSt_ok:∀ f a m n K,cSt f a m n K→callT Tryz.prog tH f a m n K:=callS_ok tabSt_ok cF_ok
theorem splice_app {a b c d:List SV} {k:Nat} (hk:k=a.length) (hd:d.length=b.length):splice (a++(b++c)) k d=a++(d++c):=by
  unfold splice
  subst hk
  rw [List.take_left,List.append_assoc,hd,← List.append_assoc a b c,← List.length_append,List.drop_left]
theorem u32_8 (s:V8):(s.l.map u32).length=8:=rfl
theorem l_s0 {s s':V8} {b:List UInt8} {n:Nat}:splice (HS.mk s b n).l 0 (s'.l.map u32)=(HS.mk s' b n).l:=by
  unfold HS.l
  have:=splice_app (a:=[]) (b:=s.l.map u32) (c:=bys b++[.int .u64 (n:Int)]) (k:=0) (d:=s'.l.map u32) rfl rfl
  simpa using this
theorem V8.l_len (s:V8):s.l.length=8:=rfl
theorem l_n72 {s:V8} {b:List UInt8} {n n':Nat} (hb:b.length=64):splice (HS.mk s b n).l 72 [.int .u64 (n':Int)]=(HS.mk s b n').l:=by
  unfold HS.l
  have:=splice_app (a:=s.l.map u32++bys b) (b:=[.int .u64 (n:Int)]) (c:=[]) (k:=72) (d:=[.int .u64 (n':Int)]) (by simp [V8.l_len,len_bytes,hb]) rfl
  simpa using this
theorem l_over {s:V8} {b t:List UInt8} {n k:Nat} (hb:b.length=64) (hk:k+t.length≤64):splice (HS.mk s b n).l (8+k) (bys t)=(HS.mk s (over b t k) n).l:=by
  unfold HS.l over
  have e:bys b=bys (b.take k)++(bys ((b.drop k).take t.length)++bys (b.drop (k+t.length))):=by
    simp only [bytes_app]
    congr 1
    rw [← List.drop_drop,List.take_append_drop,List.take_append_drop]
  have:=splice_app (a:=s.l.map u32++bys (b.take k)) (b:=bys ((b.drop k).take t.length)) (c:=bys (b.drop (k+t.length))++[.int .u64 (n:Int)]) (k:=8+k) (d:=bys t)
    (by simp [V8.l_len,len_bytes,hb];omega) (by simp [len_bytes,hb];omega)
  simp only
  rw [e,← bytes_app,← bytes_app]
  simp only [List.append_assoc] at this ⊢
  exact this
theorem l_t8 {h:HS}:List.take 8 h.l=h.s.l.map u32:=by
  unfold HS.l
  exact List.take_left' rfl
theorem l_d8 {s:V8} {b:List UInt8} {n:Nat} (hb:b.length=64):List.take 64 (List.drop 8 (HS.mk s b n).l)=bys b:=by
  unfold HS.l
  simp only
  rw [List.drop_left' (u32_8 s),List.take_left' (by simp [len_bytes,hb])]
theorem over_len {b t:List UInt8} {k:Nat} (hb:b.length=64) (hk:k+t.length≤64):(over b t k).length=64:=by
  unfold over;simp;omega
theorem rem_nat {n:Nat} (h:n < 2 ^ 60):IntKind.i64.wrap (Int.tmod (n:Int) 64)=((n % 64:Nat):Int):=by
  have e:Int.tmod (n:Int) 64=((n % 64:Nat):Int):=(Int.ofNat_tmod n 64).symm
  rw [e,wrap64_eq (by omega) (by omega)]
def hz0:HS:=⟨⟨0,0,0,0,0,0,0,0⟩,List.replicate 64 0,0⟩
theorem g73_eq {s:V8} {b:List UInt8} {cap:Option Nat} (hb:b.length=64) (hc:capB cap 64=true) :
    g73 [.agg [.int .u32 s.a,.int .u32 s.b,.int .u32 s.c,.int .u32 s.d,.int .u32 s.e,.int .u32 s.f,.int .u32 s.g,.int .u32 s.h],.slc 0 0 1 64 cap] [(0,⟨.view,bys b⟩)]=some (.agg ((comp s (byI b)).l.map u32),[],1):=by
  unfold g73
  simp only
  rw [← bys_u8,unI8_map]
  simp only [byI_len,hb,hc]
set_option maxHeartbeats 4000000 in
theorem f53 (h:HS) (t:List UInt8) (hb:h.b.length=64) (hn:h.n+t.length < 2 ^ 60):Fun Tryz.prog tH 151 [.agg h.l,.str t] [] 0 (.agg (h.add t).l) [] 0:=by
  refine fun_pureG none cSt cSt_ok ck151 (Nat.le_of_ble_eq_true rfl) (fun η=>by simp only [SV.ren,HS.l_ren]) ?_
  conv in mkSF _ _=>(reduce;simp only [u8lit,UInt8.reduceOfNat,Int.reduceOfNat,Int.reduceNegSucc])
  rw [exG_mk]
  have hl:=HS.l_len hb
  have ht:=HS.l_take hb
  have rH:∀ η (h:HS),SV.renL η h.l=h.l:=HS.l_ren
  have hzl:hz0.l.length=73:=HS.l_len rfl
  simp (config:={ maxSteps:=1000000 }) only [cSt,tabSt,reduceCtorEq,Nat.reduceEqDiff,Nat.reduceAdd,eq_self,frOf,↓reduceIte,Opd.ev,Sx.get,put,putO,del,dels,SV.cells?,BB,↓PB]
  rw [den_loop]
  refine den_inv cSt_ok (σ:=HS × List UInt8) (fun x=>[(4,.ptr 1 0),(2,.ptr 0 0),(1,.str x.2)]) (fun x=>[(1,⟨.own 151,hz0.l⟩),(0,⟨.own 151,x.1.l⟩)]) (fun _=>2)
    (fun x=>x.1.b.length=64∧x.1.n+x.2.length < 2 ^ 60∧x.1.add x.2=h.add t) (fun x=>x.2.length) (h,t) ?_ ⟨hb,hn,rfl⟩ ?_
  · exact ⟨[(0,0),(1,0)],by simp only [rH,EntM,compat,apartM,keysBelow,eta,idHs,rd,Nat.reduceAdd,Nat.reduceSub,Nat.reduceLT,Nat.reduceLeDiff,↓reduceIte,Kind.isOwn,exists_eq_left',ne_eq,implies_true,false_imp_iff,forall_const,forall_eq,BB];rfl,by simp [frEnt,geto,eta,SV.ren,Nat.reduceAdd,Nat.reduceEqDiff,Nat.reduceLeDiff,↓reduceIte,BB]⟩
  · rintro ⟨⟨s,b,n⟩,u⟩ ⟨hb',hn',hx⟩
    simp only at hb' hn' hx ⊢
    have hl':=HS.l_len (h:=⟨s,b,n⟩) hb'
    have ht':=HS.l_take (h:=⟨s,b,n⟩) hb'
    have hg':=HS.l_n (h:=⟨s,b,n⟩) hb'
    by_cases h0:u=[]
    · subst h0
      simp (config:={ maxSteps:=1000000 }) only [hl',ht',hzl,reduceCtorEq,Nat.reduceEqDiff,eq_self,↓reduceIte,↓binS,↓evRes,Opd.ev,Sx.get,put,putO,del,dels,rd,upd,SV.cells?,retOf,BB,↓PB]
      have hx2:HS.mk s b n=h.add t:=hx
      rw [← hx2]
      rw [show splice hz0.l 0 (HS.mk s b n).l=(HS.mk s b n).l by
        have:=splice_app (a:=[]) (b:=hz0.l) (c:=[]) (k:=0) (d:=(HS.mk s b n).l) rfl (by rw [hzl,hl'])
        simpa using this]
      exact ⟨by omega,ht'⟩
    · have hu:0 < u.length:=List.length_pos_iff.mpr h0
      have hnn:n < 2 ^ 60:=by omega
      have e1:=rem_nat (n:=n) hnn
      have hbeq:(u == [])=false:=by cases u with
        | nil=>exact absurd rfl h0
        | cons x y=>rfl
      have ha:n % 64 < 64:=Nat.mod_lt _ (by decide)
      have hch:=HS.add_chunk (u.take (min u.length (64 - n % 64))) ⟨s,b,n⟩ hb' (fun e=>by
          have h1:(u.take (min u.length (64 - n % 64))).length=0:=by rw [e];rfl
          rw [List.length_take] at h1;omega) (by simp only [List.length_take];omega)
      have hsp:(u.take (min u.length (64 - n % 64)))++u.drop (min u.length (64 - n % 64))=u:=List.take_append_drop _ _
      generalize hat:n % 64=a at *
      generalize hk:min u.length (64 - a)=k at *
      have k1:0 < k:=by omega
      have k2:k≤u.length:=by omega
      have k3:a+k≤64:=by omega
      have tl:(u.take k).length=k:=by simp;omega
      have bt:List.take k (bys u)=bys (u.take k):=by simp [bys,List.map_take]
      have lo:=l_over (s:=s) (b:=b) (t:=u.take k) (n:=n) (k:=a) hb' (by omega)
      have hb2:=over_len (b:=b) (t:=u.take k) (k:=a) hb' (by omega)
      generalize hb2e:over b (u.take k) a=b2 at *
      have hg2:=HS.l_n (h:=⟨s,b2,n⟩) hb2
      have l72:=l_n72 (s:=s) (b:=b2) (n:=n) (n':=n+k) hb2
      have hl2:=HS.l_len (h:=⟨s,b2,n⟩) hb2
      have hl3:=HS.l_len (h:=⟨s,b2,n+k⟩) hb2
      have wk:IntKind.u64.wrap (k:Int)=(k:Int):=by rw [show IntKind.u64.wrap (k:Int)=(k:Int) % 18446744073709551616 by simp [IntKind.wrap,IntKind.bits,IntKind.signed]];omega
      have wn:IntKind.u64.wrap ((n:Int)+(k:Int))=((n+k:Nat):Int):=by rw [show IntKind.u64.wrap ((n:Int)+(k:Int))=((n:Int)+(k:Int)) % 18446744073709551616 by simp [IntKind.wrap,IntKind.bits,IntKind.signed]];omega
      have wa:IntKind.i64.wrap ((a:Int)+(k:Int))=((a+k:Nat):Int):=by rw [wrap64_eq (by omega) (by omega)];omega
      have ht8:List.take 8 (HS.mk s b2 (n+k)).l=[.int .u32 s.a,.int .u32 s.b,.int .u32 s.c,.int .u32 s.d,.int .u32 s.e,.int .u32 s.f,.int .u32 s.g,.int .u32 s.h]:=l_t8
      have hd8:=l_d8 (s:=s) (b:=b2) (n:=n+k) hb2
      have dk:List.take (u.length - k) (List.drop k u)=List.drop k u:=List.take_of_length_le (by simp)
      have rw3:∀ η (s:V8),SV.renL η (s.l.map u32)=s.l.map u32:=fun η s=>ren_w η _
      by_cases h64:a+k=64
      · have c64:(((a+k:Nat):Int) == 64)=true:=by simp;omega
        simp (config:={ maxSteps:=1000000 }) only [hl',hg',e1,hk,bt,lo,hg2,l72,hl2,hl3,wk,wn,wa,ht8,hd8,c64,hbeq,dk,rw3,l_s0,↓g73_eq (cap:=some 64) hb2 rfl,SV.flatL,SV.flat,lookF,reduceCtorEq,Nat.reduceEqDiff,Nat.reduceAdd,Nat.reduceSub,Nat.reduceLeDiff,Nat.reduceLT,Int.reduceToNat,Int.reduceLE,Int.reduceNe,eq_self,↓reduceIte,↓binI,↓binS,evA,Opd.ev,Sx.get,put,putO,del,dels,frD,memD,pickD,kills,views,newer,rd,upd,SV.cells?,SV.one,canLW,canV,canC,belowL,apH,apH1,SV.ren,newOwn,targets,rms,Kind.isOwn,BB,↓PB]
        refine ⟨by omega,by omega,by omega,by omega,by omega,by omega,rfl,(⟨comp s (byI b2),b2,n+k⟩,u.drop k),⟨[(0,0),(1,0)],by simp only [rH,EntM,compat,apartM,keysBelow,eta,idHs,rd,Nat.reduceAdd,Nat.reduceSub,Nat.reduceLT,Nat.reduceLeDiff,↓reduceIte,Kind.isOwn,exists_eq_left',ne_eq,implies_true,false_imp_iff,forall_const,forall_eq,BB],by simp [frEnt,geto,eta,SV.ren,Nat.reduceAdd,Nat.reduceEqDiff,Nat.reduceLeDiff,↓reduceIte,BB]⟩,⟨hb2,by simp only [List.length_drop];omega,?_⟩,by simp only [List.length_drop];omega⟩
        rw [tl,if_pos h64] at hch
        simp only at hch ⊢
        rw [← hch,HS.add_app,hsp]
        exact hx
      · have c64:(((a+k:Nat):Int) == 64)=false:=by simp;omega
        simp (config:={ maxSteps:=1000000 }) only [hl',hg',e1,hk,bt,lo,hg2,l72,hl2,wk,wn,wa,c64,hbeq,dk,reduceCtorEq,Nat.reduceEqDiff,Nat.reduceAdd,Int.reduceToNat,Int.reduceLE,Int.reduceNe,eq_self,↓reduceIte,↓binI,↓binS,Opd.ev,Sx.get,put,putO,del,dels,rd,upd,SV.cells?,SV.one,BB,↓PB]
        refine ⟨by omega,by omega,by omega,by omega,by omega,by omega,(⟨s,b2,n+k⟩,u.drop k),⟨[(0,0),(1,0)],by simp only [rH,EntM,compat,apartM,keysBelow,eta,idHs,rd,Nat.reduceAdd,Nat.reduceSub,Nat.reduceLT,Nat.reduceLeDiff,↓reduceIte,Kind.isOwn,exists_eq_left',ne_eq,implies_true,false_imp_iff,forall_const,forall_eq,BB],by simp [frEnt,geto,eta,SV.ren,Nat.reduceAdd,Nat.reduceEqDiff,Nat.reduceLeDiff,↓reduceIte,BB]⟩,⟨hb2,by simp only [List.length_drop];omega,?_⟩,by simp only [List.length_drop];omega⟩
        rw [tl,if_neg h64] at hch
        simp only at hch ⊢
        rw [← hch,HS.add_app,hsp]
        exact hx
end Go.Proofs.YtmhkkalbijbplaaGreatDoor

/- The reference's padding of a message. -/
namespace Go.Proofs.YtmhkkalbijbplaaGreatDoor
open Go Go.Sx
set_option maxRecDepth 100000
set_option linter.unusedVariables false
variable {tS:List (Nat × List SV)}
def padA (m:List UInt8) (j:Nat):List UInt8:=m++(128 :: List.replicate j 0)
def padC (m:List UInt8) (i:Nat):List UInt8:=padA m (padZ m.length)++(List.range i).map (lenB m.length)
theorem padA_len (m:List UInt8) (j:Nat):(padA m j).length=m.length+1+j:=by simp [padA];omega
theorem padC_len (m:List UInt8) (i:Nat):(padC m i).length=m.length+1+padZ m.length+i:=by simp [padC,padA_len]
theorem padA_step (m:List UInt8) (j:Nat):padA m j++[0]=padA m (j+1):=by
  unfold padA
  rw [List.append_assoc,List.cons_append,List.replicate_succ']
theorem padC_step (m:List UInt8) (i:Nat):padC m i++[lenB m.length i]=padC m (i+1):=by
  unfold padC
  rw [List.append_assoc,List.range_succ,List.map_append];rfl
theorem padC_z (m:List UInt8):padC m 0=padA m (padZ m.length):=by simp [padC]
theorem padC_all (m:List UInt8):padC m 8=m++padS m.length:=by simp [padC,padA,padS,lenBs]
set_option maxHeartbeats 4000000 in
theorem f88 (m:List UInt8) (hm:m.length≤2 ^ 38) (cap:Option Nat) (hcap:CapOk cap m.length):Fun Tryz.prog tS 163 [.slc 0 0 1 m.length cap] [(0,⟨.view,bys m⟩)] 1 (.slc 1 0 1 (m++padS m.length).length none) [(1,⟨.own 5,bys (m++padS m.length)⟩)] 2:=by
  refine fun_anyG none cF cF_ok ck163 (Nat.le_of_ble_eq_true rfl) (by decide) ?_
  conv in mkSF _ _=>(reduce;simp only [u8lit,UInt8.reduceOfNat,Int.reduceOfNat,Int.reduceNegSucc])
  rw [exG_mk]
  simp (config:={ maxSteps:=1000000 }) only [reduceCtorEq,Nat.reduceEqDiff,Nat.reduceAdd,eq_self,frOf,↓reduceIte,↓fillE,Opd.ev,Sx.get,put,putO,del,dels,rd,rm,splice,SV.cells?,SV.one,BB,↓PB]
  have w0:(128:UInt8).toNat=128:=rfl
  have e0:bys m++[SV.int .u8 128]=bys (padA m 0):=by simp only [padA,List.replicate_zero,← bytes_app];rfl
  have es:∀ j,bys (padA m j)++[SV.int .u8 0]=bys (padA m (j+1)):=fun j=>by rw [← padA_step,← bytes_app];rfl
  rw [e0]
  refine ⟨by omega,by omega,by omega,by omega,?_⟩
  rw [den_loop]
  refine den_inv cF_ok (σ:=Nat) (fun j=>[(3,.slc 1 0 1 (m.length+1+j) none),(0,.slc 0 0 1 m.length cap)]) (fun j=>[(1,⟨.own 5,bys (padA m j)⟩),(0,⟨.view,bys m⟩)]) (fun _=>2)
    (fun j=>j≤padZ m.length) (fun j=>padZ m.length - j) 0 ?_ (Nat.zero_le _) ?_
  · exact ⟨[(0,0),(4,0)],by simp [EntM,compat,apartM,keysBelow,eta,idHs,rd,Nat.reduceAdd,Nat.reduceLeDiff,↓reduceIte,Kind.isOwn,exists_eq_left',ne_eq,implies_true,forall_const,reduceCtorEq,forall_eq,BB],by simp [frEnt,geto,eta,SV.ren,Nat.reduceAdd,Nat.reduceLeDiff,↓reduceIte,reduceCtorEq,BB]⟩
  · intro j hj
    have hz:=padZ_le m.length
    have r1:Int.tmod ((m.length+1+j:Nat):Int) 64=(((m.length+1+j) % 64:Nat):Int):=(Int.ofNat_tmod _ 64).symm
    have r2:=rem_nat (n:=m.length+1+j) (by omega)
    have tk:List.take (m.length+1+j) (bys (padA m j))=bys (padA m j):=List.take_of_length_le (by rw [len_bytes,padA_len];omega)
    have ln:(padA m j).length=m.length+1+j:=padA_len m j
    by_cases hj2:j < padZ m.length
    · have c:((((m.length+1+j) % 64:Nat):Int) != 56)=true:=by
        have:=padZ_not hj2
        rw [show m.length+1+j=m.length+(1+j) by omega]
        simp;omega
      simp (config:={ maxSteps:=1000000 }) only [r1,c,tk,ln,es,reduceCtorEq,Nat.reduceEqDiff,Nat.reduceAdd,Int.reduceNe,eq_self,↓reduceIte,↓binI,↓fillE,Opd.ev,Sx.get,put,putO,del,dels,rd,rm,splice,SV.cells?,SV.one,BB,↓PB]
      exact ⟨by omega,by omega,j+1,⟨[(0,0),(3,0)],by simp [EntM,compat,apartM,keysBelow,eta,idHs,rd,Nat.reduceAdd,Nat.reduceLeDiff,↓reduceIte,Kind.isOwn,exists_eq_left',ne_eq,implies_true,forall_const,reduceCtorEq,forall_eq,BB],by simp [Nat.add_assoc,frEnt,geto,eta,SV.ren,Nat.reduceAdd,Nat.reduceLeDiff,↓reduceIte,reduceCtorEq,BB]⟩,by omega,by omega⟩
    · obtain rfl:j=padZ m.length:=by omega
      have c:((((m.length+1+padZ m.length) % 64:Nat):Int) != 56)=false:=by
        have:=padZ_ok m.length
        rw [show m.length+1+padZ m.length=m.length+(1+padZ m.length) by omega]
        simp;omega
      simp (config:={ maxSteps:=1000000 }) only [r1,c,reduceCtorEq,Nat.reduceEqDiff,Int.reduceNe,eq_self,↓reduceIte,↓binI,Opd.ev,Sx.get,put,putO,del,dels,BB,↓PB]
      have wl:IntKind.u64.wrap (m.length:Int)=(m.length:Int):=by rw [show IntKind.u64.wrap (m.length:Int)=(m.length:Int) % 18446744073709551616 by simp [IntKind.wrap,IntKind.bits,IntKind.signed]];omega
      rw [wl,← padC_z]
      generalize hN:IntKind.u64.wrap (8 * (m.length:Int))=N
      rw [den_loop]
      refine den_inv cF_ok (σ:=Nat) (fun i=>[(5,.int .i64 (i:Int)),(4,.int .u64 N),(3,.slc 1 0 1 (m.length+1+padZ m.length+i) none)]) (fun i=>[(1,⟨.own 5,bys (padC m i)⟩)]) (fun _=>2)
        (fun i=>i≤8) (fun i=>8 - i) 0 ?_ (Nat.zero_le _) ?_
      · exact ⟨[(0,0),(1,0)],by simp [EntM,compat,apartM,keysBelow,eta,idHs,rd,Nat.reduceAdd,Nat.reduceLeDiff,↓reduceIte,Kind.isOwn,exists_eq_left',ne_eq,implies_true,forall_const,BB],by simp [frEnt,geto,eta,SV.ren,Nat.reduceAdd,Nat.reduceEqDiff,Nat.reduceLeDiff,↓reduceIte,BB]⟩
      · intro i hi
        have tk2:List.take (m.length+1+padZ m.length+i) (bys (padC m i))=bys (padC m i):=List.take_of_length_le (by rw [len_bytes,padC_len];omega)
        have ln2:(padC m i).length=m.length+1+padZ m.length+i:=padC_len m i
        by_cases h8:i < 8
        · have c1:(i:Int) < 8:=by omega
          have v1:IntKind.i64.wrap (8 * (i:Int))=((8 * i:Nat):Int):=by rw [wrap64_eq (by omega) (by omega)];omega
          have v2:IntKind.i64.wrap (56 - ((8 * i:Nat):Int))=((56 - 8 * i:Nat):Int):=by rw [wrap64_eq (by omega) (by omega)];omega
          have v3:(0:Int)≤((56 - 8 * i:Nat):Int):=by omega
          have v4:IntKind.i64.wrap ((i:Int)+1)=((i+1:Nat):Int):=by rw [wrap64_eq (by omega) (by omega)];omega
          have eb:bys (padC m i)++[SV.int .u8 (IntKind.u8.wrap (N.fdiv (2 ^ (min (56 - 8 * i) IntKind.u64.bits))))]=bys (padC m (i+1)):=by
            rw [← padC_step,← bytes_app1,wrapB_sv]
            unfold lenB
            rw [hN]
          simp (config:={ maxSteps:=1000000 }) only [c1,v1,v2,v3,v4,tk2,ln2,eb,Nat.reduceEqDiff,Nat.reduceAdd,eq_self,↓reduceIte,↓binI,↓fillE,Opd.ev,Sx.get,put,putO,del,dels,rd,rm,splice,SV.cells?,SV.one,BB,↓PB]
          exact ⟨by omega,by omega,i+1,⟨[(0,0),(3,0)],by simp [EntM,compat,apartM,keysBelow,eta,idHs,rd,Nat.reduceAdd,Nat.reduceLeDiff,↓reduceIte,Kind.isOwn,exists_eq_left',ne_eq,implies_true,forall_const,BB],by simp [Nat.add_assoc,frEnt,geto,eta,SV.ren,Nat.reduceAdd,Nat.reduceEqDiff,Nat.reduceLeDiff,↓reduceIte,BB]⟩,by omega,by omega⟩
        · obtain rfl:i=8:=by omega
          simp (config:={ maxSteps:=1000000 }) only [Nat.reduceEqDiff,Int.reduceLT,eq_self,↓reduceIte,↓binI,↓evRes,Opd.ev,Sx.get,put,putO,del,dels,retOf,eta,SV.ren,BB,↓PB]
          rw [← ln2,padC_all]
          exact ⟨[(0,0),(1,0)],by simp [EntM,compat,apartM,keysBelow,eta,idHs,rd,Nat.reduceAdd,Nat.reduceLeDiff,↓reduceIte,Kind.isOwn,exists_eq_left',ne_eq,implies_true,forall_const,BB],by simp [Nat.reduceAdd,Nat.reduceLeDiff,BB]⟩
def gPad:GS
  | [.slc 0 0 1 len cap],[(0,⟨.view,cells⟩)]=>match unB cells with
    | some m=>match capB cap m.length with
      | true=>if len=m.length∧m.length≤2 ^ 38 then some (.slc 1 0 1 (m++padS m.length).length none,[(1,⟨.own 5,bys (m++padS m.length)⟩)],2) else none
      | _=>none
    | none=>none
  | _,_=>none
theorem gPad_ok:FunS Tryz.prog tS 163 gPad:=by
  intro a0 m0 r m1 n1 h
  unfold gPad at h
  split at h
  · split at h
    · rename_i m hm
      split at h
      · rename_i hcap
        split at h
        · rename_i hc
          cases h
          obtain ⟨rfl,h2⟩:=hc
          rw [unB_some hm]
          exact ⟨f88 m h2 _ (capB_ok hcap),by simp [freshB]⟩
        · cases h
      · cases h
    · cases h
  · cases h
end Go.Proofs.YtmhkkalbijbplaaGreatDoor

/- The stream of package hash: Sum. -/
namespace Go.Proofs.YtmhkkalbijbplaaGreatDoor
open Go Go.Sx
set_option maxRecDepth 100000
set_option linter.unusedVariables false
variable {tS:List (Nat × List SV)}
def gAdd:List SV→Option SV
  | [.agg l,.str t]=>match unHS l with
    | some h=>if h.b.length=64∧h.n+t.length < 2 ^ 60 then some (.agg (h.add t).l) else none
    | none=>none
  | _=>none
theorem gAdd_eq {h:HS} {t:List UInt8} (hb:h.b.length=64) (hn:h.n+t.length < 2 ^ 60):gAdd [.agg h.l,.str t]=some (.agg (h.add t).l):=by
  simp only [gAdd]
  rw [unHS_l hb]
  simp only
  rw [if_pos ⟨hb,hn⟩]
def tabAdd:Tab:=⟨[(151,gAdd)],[]⟩
theorem tabAdd_ok:TabX Tryz.prog tH tabAdd:=by
  refine ⟨fun x h args r hr=>?_,fun x h=>by simp [tabAdd] at h⟩
  simp only [tabAdd,List.mem_singleton] at h
  subst h
  simp only at hr
  unfold gAdd at hr
  split at hr
  · split at hr
    · rename_i h hh
      split at hr
      · rename_i hc
        cases hr
        rw [unHS_some hh]
        exact ⟨f53 h _ hc.1 hc.2,fun η=>by simp only [SV.renL,SV.ren,HS.l_ren],fun η=>by simp only [SV.renL,SV.ren,HS.l_ren]⟩
      · cases hr
    · cases hr
  · cases hr
def padQ (n i:Nat):List UInt8:=padA [] (padZ n)++(List.range i).map (lenB n)
theorem padQ_len (n i:Nat):(padQ n i).length=1+padZ n+i:=by simp [padQ,padA_len]
theorem padQ_z (n:Nat):padQ n 0=padA [] (padZ n):=by simp [padQ]
theorem padQ_step (n i:Nat):padQ n i++[lenB n i]=padQ n (i+1):=by
  unfold padQ
  rw [List.append_assoc,List.range_succ,List.map_append];rfl
theorem padQ_all (n:Nat):padQ n 8=padS n:=by simp [padQ,padA,padS,lenBs]
def outC (s:V8) (i:Nat):List SV:=bys ((List.range i).map (outB s))++List.replicate (32 - i) (.int .u8 0)
def z32:List SV:=List.replicate 32 (.int .u8 0)
theorem outC_z (s:V8):outC s 0=z32:=rfl
theorem outC_len {s:V8} {i:Nat} (h:i≤32):(outC s i).length=32:=by simp [outC,len_bytes];omega
theorem outC_all (s:V8):outC s 32=bys (outS s):=by simp [outC,outS]
theorem outC_put {s:V8} {i:Nat} (h:i < 32):splice (outC s i) i [SV.int .u8 (IntKind.u8.wrap ((s.l.getD (i / 4) 0).fdiv (2 ^ (min (24 - 8 * (i % 4)) IntKind.u32.bits))))]=outC s (i+1):=by
  rw [wrapB_sv]
  unfold outC
  rw [show (32 - i)=(32 - (i+1))+1 by omega,List.replicate_succ]
  have:=splice_app (a:=bys ((List.range i).map (outB s))) (b:=[.int .u8 0]) (c:=List.replicate (32 - (i+1)) (.int .u8 0)) (k:=i) (d:=[SV.byte (outB s i)]) (by simp [len_bytes]) rfl
  simp only [List.cons_append,List.nil_append] at this
  unfold outB at this ⊢
  rw [this,List.range_succ,List.map_append,← bytes_app,List.append_assoc]
  rfl
theorem outC_flat {s:V8} {i:Nat}:SV.flatL (outC s i)=true:=by
  unfold outC
  refine flatL_app (flat_bytes _) ?_
  generalize 32 - i=k
  induction k with
  | zero=>rfl
  | succ k ih=>rw [List.replicate_succ];simp only [SV.flatL,SV.flat,Bool.true_and];exact ih
theorem outC_ren (η:Nat→Nat × Nat) (s:V8) (i:Nat):SV.renL η (outC s i)=outC s i:=SV.flatL_ren η _ outC_flat
set_option maxHeartbeats 4000000 in
theorem f54 (h:HS) (hb:h.b.length=64) (hn:h.n < 2 ^ 58):Fun Tryz.prog tH 152 [.agg h.l] [] 0 (.agg (bys (outS (h.add (padS h.n)).s))) [] 0:=by
  refine fun_pureG none (callX tabAdd) (callX_ok tabAdd_ok) ck152 (Nat.le_of_ble_eq_true rfl) (fun η=>by simp only [SV.ren,ren_bytes]) ?_
  conv in mkSF _ _=>(reduce;simp only [u8lit,UInt8.reduceOfNat,Int.reduceOfNat,Int.reduceNegSucc])
  rw [exG_mk]
  have hl:=HS.l_len hb
  have ht:=HS.l_take hb
  have hg:=HS.l_n hb
  have rH:∀ η (h:HS),SV.renL η h.l=h.l:=HS.l_ren
  have e0:[SV.int .u8 128]=bys (padA [] 0):=rfl
  simp (config:={ maxSteps:=1000000 }) only [tabAdd,hg,reduceCtorEq,Nat.reduceEqDiff,Nat.reduceAdd,eq_self,frOf,↓reduceIte,↓binI,↓fillE,Opd.ev,Sx.get,put,putO,del,dels,rd,splice,SV.cells?,SV.one,BB,↓PB]
  rw [e0]
  rw [den_loop]
  have hz:∀ η,SV.renL η z32=z32:=fun η=>outC_ren η h.s 0
  have hzl:z32.length=32:=rfl
  have es:∀ j,bys (padA [] j)++[SV.int .u8 0]=bys (padA [] (j+1)):=fun j=>by rw [← padA_step,← bytes_app];rfl
  have wn:IntKind.i64.wrap (h.n:Int)=(h.n:Int):=wrap64_eq (by omega) (by omega)
  generalize hN:IntKind.u64.wrap (8 * (h.n:Int))=N
  have hpz:=padZ_le h.n
  refine den_inv (callX_ok tabAdd_ok) (σ:=Nat) (fun j=>[(4,.slc 2 0 1 (1+j) none),(3,.int .u64 N),(2,.ptr 1 0),(1,.ptr 0 0)]) (fun j=>[(2,⟨.own 5,bys (padA [] j)⟩),(1,⟨.own 141,z32⟩),(0,⟨.own 151,h.l⟩)]) (fun _=>3)
    (fun j=>j≤padZ h.n) (fun j=>padZ h.n - j) 0 ?_ (Nat.zero_le _) ?_
  · exact ⟨[(0,0),(1,0),(2,0)],by simp only [rH,hz,EntM,compat,apartM,keysBelow,eta,idHs,rd,Nat.reduceAdd,Nat.reduceSub,Nat.reduceLT,Nat.reduceLeDiff,↓reduceIte,Kind.isOwn,exists_eq_left',ne_eq,implies_true,false_imp_iff,forall_const,reduceCtorEq,forall_eq_or_imp,forall_eq,BB] <;> rfl,by simp [frEnt,geto,eta,SV.ren,Nat.reduceAdd,Nat.reduceEqDiff,Nat.reduceLT,Nat.reduceLeDiff,↓reduceIte,BB]⟩
  · intro j hj
    have wj:IntKind.i64.wrap ((h.n:Int)+((1+j:Nat):Int))=((h.n+(1+j):Nat):Int):=by rw [wrap64_eq (by omega) (by omega)];omega
    have r1:Int.tmod ((h.n+(1+j):Nat):Int) 64=(((h.n+(1+j)) % 64:Nat):Int):=(Int.ofNat_tmod _ 64).symm
    have tk:List.take (1+j) (bys (padA [] j))=bys (padA [] j):=List.take_of_length_le (by rw [len_bytes,padA_len];simp)
    have ln:(padA [] j).length=1+j:=by rw [padA_len];simp
    by_cases hj2:j < padZ h.n
    · have c:((((h.n+(1+j)) % 64:Nat):Int) != 56)=true:=by
        have:=padZ_not hj2
        simp;omega
      simp (config:={ maxSteps:=1000000 }) only [hg,wn,wj,r1,c,tk,ln,es,reduceCtorEq,Nat.reduceEqDiff,Nat.reduceAdd,Int.reduceNe,eq_self,↓reduceIte,↓binI,↓fillE,Opd.ev,Sx.get,put,putO,del,dels,rd,rm,splice,SV.cells?,SV.one,BB,↓PB]
      exact ⟨by omega,by omega,j+1,⟨[(0,0),(1,0),(4,0)],by simp only [rH,hz,EntM,compat,apartM,keysBelow,eta,idHs,rd,Nat.reduceAdd,Nat.reduceSub,Nat.reduceEqDiff,Nat.reduceLT,Nat.reduceLeDiff,↓reduceIte,Kind.isOwn,exists_eq_left',ne_eq,implies_true,false_imp_iff,forall_const,reduceCtorEq,forall_eq_or_imp,forall_eq,BB],by simp [Nat.add_assoc,frEnt,geto,eta,SV.ren,Nat.reduceAdd,Nat.reduceEqDiff,Nat.reduceLT,Nat.reduceLeDiff,↓reduceIte,BB]⟩,by omega,by omega⟩
    · obtain rfl:j=padZ h.n:=by omega
      have c:((((h.n+(1+padZ h.n)) % 64:Nat):Int) != 56)=false:=by
        have:=padZ_ok h.n
        simp;omega
      simp (config:={ maxSteps:=1000000 }) only [hg,wn,wj,r1,c,reduceCtorEq,Nat.reduceEqDiff,Int.reduceNe,eq_self,↓reduceIte,↓binI,Opd.ev,Sx.get,put,putO,del,dels,rd,BB,↓PB]
      rw [den_loop,← padQ_z]
      refine den_inv (callX_ok tabAdd_ok) (σ:=Nat) (fun i=>[(23,.int .i64 (i:Int)),(4,.slc 2 0 1 (1+padZ h.n+i) none),(3,.int .u64 N),(2,.ptr 1 0),(1,.ptr 0 0)]) (fun i=>[(2,⟨.own 5,bys (padQ h.n i)⟩),(1,⟨.own 141,z32⟩),(0,⟨.own 151,h.l⟩)]) (fun _=>3)
        (fun i=>i≤8) (fun i=>8 - i) 0 ?_ (Nat.zero_le _) ?_
      · exact ⟨[(0,0),(1,0),(2,0)],by simp only [rH,hz,EntM,compat,apartM,keysBelow,eta,idHs,rd,Nat.reduceAdd,Nat.reduceSub,Nat.reduceLT,Nat.reduceLeDiff,↓reduceIte,Kind.isOwn,exists_eq_left',ne_eq,implies_true,false_imp_iff,forall_const,reduceCtorEq,forall_eq_or_imp,forall_eq,BB],by simp [frEnt,geto,eta,SV.ren,Nat.reduceAdd,Nat.reduceEqDiff,Nat.reduceLT,Nat.reduceLeDiff,↓reduceIte,BB]⟩
      · intro i hi
        have tk2:List.take (1+padZ h.n+i) (bys (padQ h.n i))=bys (padQ h.n i):=List.take_of_length_le (by rw [len_bytes,padQ_len];omega)
        have ln2:(padQ h.n i).length=1+padZ h.n+i:=padQ_len h.n i
        by_cases h8:i < 8
        · have c1:(i:Int) < 8:=by omega
          have v1:IntKind.i64.wrap (8 * (i:Int))=((8 * i:Nat):Int):=by rw [wrap64_eq (by omega) (by omega)];omega
          have v2:IntKind.i64.wrap (56 - ((8 * i:Nat):Int))=((56 - 8 * i:Nat):Int):=by rw [wrap64_eq (by omega) (by omega)];omega
          have v3:(0:Int)≤((56 - 8 * i:Nat):Int):=by omega
          have v4:IntKind.i64.wrap ((i:Int)+1)=((i+1:Nat):Int):=by rw [wrap64_eq (by omega) (by omega)];omega
          have eb:bys (padQ h.n i)++[SV.int .u8 (IntKind.u8.wrap (N.fdiv (2 ^ (min (56 - 8 * i) IntKind.u64.bits))))]=bys (padQ h.n (i+1)):=by
            rw [← padQ_step,← bytes_app1,wrapB_sv]
            unfold lenB
            rw [hN]
          simp (config:={ maxSteps:=1000000 }) only [c1,v1,v2,v3,v4,tk2,ln2,eb,reduceCtorEq,Nat.reduceEqDiff,Nat.reduceAdd,eq_self,↓reduceIte,↓binI,↓fillE,Opd.ev,Sx.get,put,putO,del,dels,rd,rm,splice,SV.cells?,SV.one,BB,↓PB]
          exact ⟨by omega,by omega,i+1,⟨[(0,0),(1,0),(4,0)],by simp only [rH,hz,EntM,compat,apartM,keysBelow,eta,idHs,rd,Nat.reduceAdd,Nat.reduceSub,Nat.reduceEqDiff,Nat.reduceLT,Nat.reduceLeDiff,↓reduceIte,Kind.isOwn,exists_eq_left',ne_eq,implies_true,false_imp_iff,forall_const,reduceCtorEq,forall_eq_or_imp,forall_eq,BB],by simp [Nat.add_assoc,frEnt,geto,eta,SV.ren,Nat.reduceAdd,Nat.reduceEqDiff,Nat.reduceLT,Nat.reduceLeDiff,↓reduceIte,BB]⟩,by omega,by omega⟩
        · obtain rfl:i=8:=by omega
          have hadd:=gAdd_eq (h:=h) (t:=padS h.n) hb (by rw [padS_len];omega)
          rw [padQ_all]
          have hpl:(padS h.n).length=1+padZ h.n+8:=by rw [padS_len];omega
          have tk3:List.take (1+padZ h.n+8) (bys (padS h.n))=bys (padS h.n):=List.take_of_length_le (by rw [len_bytes];omega)
          have hb2:(h.add (padS h.n)).b.length=64:=by rw [HS.add_len,hb]
          have ht2:=HS.l_take hb2
          have hl2:=HS.l_len hb2
          have hfl:=HS.l_flat h
          have hfl2:=HS.l_flat (h.add (padS h.n))
          have hsp:splice h.l 0 (h.add (padS h.n)).l=(h.add (padS h.n)).l:=by
            have:=splice_app (a:=[]) (b:=h.l) (c:=[]) (k:=0) (d:=(h.add (padS h.n)).l) rfl (by rw [hl,hl2])
            simpa using this
          have mb:=map_byteOf (padS h.n)
          have au:=all_isU8 (padS h.n)
          simp (config:={ maxSteps:=1000000 }) only [hl,ht,tk3,hpl,↓hadd,hfl,hfl2,hl2,hsp,mb,au,SV.flatL,SV.flat,lookF,reduceCtorEq,Nat.reduceEqDiff,Nat.reduceAdd,Int.reduceLT,eq_self,↓reduceIte,↓binI,Opd.ev,Sx.get,put,putO,del,dels,rd,upd,SV.cells?,BB,↓PB]
          rw [den_loop]
          generalize hge:h.add (padS h.n)=g at *
          refine den_inv (callX_ok tabAdd_ok) (σ:=Nat) (fun i=>[(40,.int .i64 (i:Int)),(6,.ptr 2 0),(2,.ptr 1 0),(1,.ptr 0 0)]) (fun i=>[(2,⟨.own 141,outC g.s i⟩),(1,⟨.own 141,z32⟩),(0,⟨.own 151,g.l⟩)]) (fun _=>3)
            (fun i=>i≤32) (fun i=>32 - i) 0 ?_ (Nat.zero_le _) ?_
          · exact ⟨[(0,0),(1,0),(3,0)],by simp only [rH,hz,outC_z,EntM,compat,apartM,keysBelow,eta,idHs,rd,Nat.reduceAdd,Nat.reduceSub,Nat.reduceEqDiff,Nat.reduceLT,Nat.reduceLeDiff,↓reduceIte,Kind.isOwn,exists_eq_left',ne_eq,implies_true,false_imp_iff,forall_const,reduceCtorEq,forall_eq_or_imp,forall_eq,BB] <;> rfl,by simp [frEnt,geto,eta,SV.ren,Nat.reduceAdd,Nat.reduceEqDiff,Nat.reduceLT,Nat.reduceLeDiff,↓reduceIte,BB]⟩
          · intro i hi
            have rC:∀ η i,SV.renL η (outC g.s i)=outC g.s i:=fun η i=>outC_ren η g.s i
            have lC:=outC_len (s:=g.s) hi
            by_cases h32:i < 32
            · have c1:(i:Int) < 32:=by omega
              have c2:(0:Int)≤(i:Int):=by omega
              have q1:Int.tdiv (i:Int) 4=((i / 4:Nat):Int):=(Int.ofNat_tdiv i 4).symm
              have q2:Int.tmod (i:Int) 4=((i % 4:Nat):Int):=(Int.ofNat_tmod i 4).symm
              have q3:IntKind.i64.wrap ((i / 4:Nat):Int)=((i / 4:Nat):Int):=wrap64_eq (by omega) (by omega)
              have q4:(0:Int)≤((i / 4:Nat):Int)∧((i / 4:Nat):Int) < 8:=by omega
              have hs:=HS.l_s (h:=g) (q:=i / 4) (by omega)
              have v1:IntKind.i64.wrap (8 * ((i % 4:Nat):Int))=((8 * (i % 4):Nat):Int):=by rw [wrap64_eq (by omega) (by omega)];omega
              have v2:IntKind.i64.wrap (24 - ((8 * (i % 4):Nat):Int))=((24 - 8 * (i % 4):Nat):Int):=by rw [wrap64_eq (by omega) (by omega)];omega
              have v3:(0:Int)≤((24 - 8 * (i % 4):Nat):Int):=by omega
              have v4:IntKind.i64.wrap ((i:Int)+1)=((i+1:Nat):Int):=by rw [wrap64_eq (by omega) (by omega)];omega
              have op:=outC_put (s:=g.s) h32
              simp (config:={ maxSteps:=1000000 }) only [c1,c2,q1,q2,q3,q4.1,q4.2,hs,v1,v2,v3,v4,lC,op,reduceCtorEq,Nat.reduceEqDiff,Nat.reduceLeDiff,Int.reduceNe,eq_self,↓reduceIte,↓binI,Opd.ev,Sx.get,put,putO,del,dels,rd,upd,SV.cells?,SV.one,BB,↓PB]
              exact ⟨by omega,i+1,⟨[(0,0),(1,0),(2,0)],by simp only [rH,hz,rC,EntM,compat,apartM,keysBelow,eta,idHs,rd,Nat.reduceAdd,Nat.reduceSub,Nat.reduceLT,Nat.reduceLeDiff,↓reduceIte,Kind.isOwn,exists_eq_left',ne_eq,implies_true,false_imp_iff,forall_const,reduceCtorEq,forall_eq_or_imp,forall_eq,BB],by simp [frEnt,geto,eta,SV.ren,Nat.reduceAdd,Nat.reduceEqDiff,Nat.reduceLT,Nat.reduceLeDiff,↓reduceIte,BB]⟩,by omega,by omega⟩
            · obtain rfl:i=32:=by omega
              simp (config:={ maxSteps:=1000000 }) only [lC,reduceCtorEq,Nat.reduceEqDiff,Int.reduceLT,eq_self,↓reduceIte,↓binI,↓evRes,Opd.ev,Sx.get,put,putO,del,dels,rd,upd,SV.cells?,retOf,BB,↓PB]
              have tC:List.take 32 (outC g.s 32)=outC g.s 32:=List.take_of_length_le (by omega)
              have sC:splice z32 0 (outC g.s 32)=outC g.s 32:=by
                have:=splice_app (a:=[]) (b:=z32) (c:=[]) (k:=0) (d:=outC g.s 32) rfl (by rw [lC,hzl])
                simpa using this
              rw [tC,sC,tC]
              exact ⟨lC,by omega,by omega,outC_all g.s⟩
def gSum:List SV→Option SV
  | [.agg l]=>match unHS l with
    | some h=>if h.b.length=64∧h.n < 2 ^ 58 then some (.agg (bys (outS (h.add (padS h.n)).s))) else none
    | none=>none
  | _=>none
theorem gSum_eq {h:HS} (hb:h.b.length=64) (hn:h.n < 2 ^ 58):gSum [.agg h.l]=some (.agg (bys (outS (h.add (padS h.n)).s))):=by
  simp only [gSum]
  rw [unHS_l hb]
  simp only
  rw [if_pos ⟨hb,hn⟩]
def gBeg:List SV→Option SV
  | []=>some (.agg hs0.l)
  | _=>none
def tabStr:Tab:=⟨[(150,gBeg),(151,gAdd),(152,gSum)],[]⟩
theorem tabStr_ok:TabX Tryz.prog tH tabStr:=by
  refine ⟨fun x h args r hr=>?_,fun x h=>by simp [tabStr] at h⟩
  simp only [tabStr,List.mem_cons,List.not_mem_nil,or_false] at h
  rcases h with rfl | rfl | rfl
  · simp only at hr
    unfold gBeg at hr
    split at hr
    · cases hr
      exact ⟨f52,fun η=>by simp only [SV.renL],fun η=>by simp only [SV.renL,SV.ren,HS.l_ren]⟩
    · cases hr
  · exact tabAdd_ok.p (151,gAdd) (by simp [tabAdd]) args r hr
  · simp only at hr
    unfold gSum at hr
    split at hr
    · split at hr
      · rename_i h hh
        split at hr
        · rename_i hc
          cases hr
          rw [unHS_some hh]
          exact ⟨f54 h hc.1 hc.2,fun η=>by simp only [SV.renL,SV.ren,HS.l_ren],fun η=>by simp only [SV.renL,SV.ren,ren_bytes]⟩
        · cases hr
      · cases hr
    · cases hr
end Go.Proofs.YtmhkkalbijbplaaGreatDoor

/- Package wire: the encoding of an integer. -/
namespace Go.Proofs.YtmhkkalbijbplaaGreatDoor
open Go Go.Sx
set_option maxRecDepth 100000
set_option linter.unusedVariables false
variable {tS:List (Nat × List SV)}
def nth8 (m:Int) (i:Nat):Int:=m.fdiv (2 ^ (min (8 * i) IntKind.u64.bits))
def topK (m:Int):Nat→Nat
  | 0=>0
  | k+1=>if nth8 m k > 0 then k+1 else topK m k
theorem topK_le (m:Int):∀ k,topK m k≤k
  | 0=>Nat.le_refl _
  | k+1=>by unfold topK;split;exact Nat.le_refl _;exact Nat.le_succ_of_le (topK_le m k)
def encTail (m f:Int):Nat→List UInt8
  | 0=>[]
  | i+1=>flipB (IntKind.u8.wrap (nth8 m i)) f :: encTail m f i
theorem encTail_len (m f:Int):∀ i,(encTail m f i).length=i
  | 0=>rfl
  | i+1=>by simp [encTail,encTail_len m f i]
def encHd (f:Int) (k:Nat):UInt8:=flipB (IntKind.u8.wrap (128+(k:Int))) f
def encM (n:Int):Int:=if n < 0 then bitop .xor .u64 (if IntKind.u64.signed then -1 else IntKind.u64.max) (IntKind.u64.wrap n) else IntKind.u64.wrap n
def encF (n:Int):Int:=if n < 0 then 255 else 0
def encI (n:Int):List UInt8:=encHd (encF n) (topK (encM n) 8) :: encTail (encM n) (encF n) (topK (encM n) 8)
theorem encI_len (n:Int):(encI n).length≤9:=by
  simp only [encI,List.length_cons,encTail_len]
  have:=topK_le (encM n) 8
  omega

def rB (l:List UInt8) (i:Nat):SV:=.slc i 0 1 l.length none
set_option maxHeartbeats 4000000 in
theorem f34 (n:Int):Fun Tryz.prog tS 45 [.int .i64 n] [] 0 (.slc 0 0 1 (encI n).length none) [(0,⟨.own 5,bys (encI n)⟩)] 1:=by
  refine fun_anyG none cF cF_ok ck45 (Nat.le_of_ble_eq_true rfl) (Nat.zero_le _) ?_
  conv in mkSF _ _=>(reduce;simp only [u8lit,UInt8.reduceOfNat,Int.reduceOfNat,Int.reduceNegSucc])
  rw [exG_mk]
  have hlen:=encI_len n
  have hren:=fun η b=>ren_bytes η b
  have key:(bitop .xor .u64 (if IntKind.u64.signed then -1 else IntKind.u64.max) (IntKind.u64.wrap n)=encM n∧(255:Int)=encF n∧n < 0)∨(IntKind.u64.wrap n=encM n∧(0:Int)=encF n∧¬ n < 0):=by
    by_cases hn:n < 0
    · left;simp only [encM,encF,hn,if_true];trivial
    · right;simp only [encM,encF,hn,if_false];trivial
  rcases key with ⟨k1,k2,hn⟩ | ⟨k1,k2,hn⟩
  all_goals
    simp (config:={ maxSteps:=1000000 }) only [hn,k1,reduceCtorEq,Nat.reduceEqDiff,Int.reduceNeg,↓reduceIte,BC,↓PC]
    generalize hm:encM n=m at *
    generalize hf:encF n=f at *
    rw [den_loop]
    refine den_inv cF_ok (σ:=Nat) (fun k=>[(5,.int .i64 (k:Int)),(4,.int .u8 f),(3,.int .u64 m)]) (fun _=>[]) (fun _=>0)
      (fun k=>k≤8∧topK m k=topK m 8) (fun k=>k) 8 ⟨[],by simp [BC],by simp [← k2,Nat.reduceEqDiff,↓reduceIte,BC]⟩ ⟨Nat.le_refl _,rfl⟩ ?_
    rintro k ⟨hk8,hk⟩
    have step:(k=0∨(0 < k∧nth8 m (k - 1) > 0))∨(0 < k∧¬ nth8 m (k - 1) > 0):=by
      by_cases h0:k=0
      · exact .inl (.inl h0)
      · by_cases h1:nth8 m (k - 1) > 0
        · exact .inl (.inr ⟨by omega,h1⟩)
        · exact .inr ⟨by omega,h1⟩
    have hI:encHd f (topK m 8) :: encTail m f (topK m 8)=encI n:=by unfold encI;rw [hm,hf]
    have w3:0 < k→IntKind.i64.wrap (8 * ((k:Int) - 1))=((8 * (k - 1):Nat):Int):=fun h=>by rw [wrap64_eq (by omega) (by omega)];omega
    have w1:IntKind.i64.wrap (128+(k:Int))=128+(k:Int):=wrap64_eq (by omega) (by omega)
    have w2:IntKind.i64.wrap ((k:Int) - 1)=(k:Int) - 1:=wrap64_eq (by omega) (by omega)
    rcases step with hx | ⟨h0,h1⟩
    · have hkK:topK m 8=k:=by
        rw [← hk]
        rcases hx with rfl | ⟨h0,h1⟩
        · rfl
        · obtain ⟨j,rfl⟩:∃ j,k=j+1:=⟨k - 1,by omega⟩
          simp only [Nat.add_sub_cancel] at h1
          unfold topK
          rw [if_pos h1]
      rw [hkK] at hI
      have hb:SV.int .u8 (bitop .xor .u8 (IntKind.u8.wrap (128+(k:Int))) f)=SV.byte (encHd f k):=flipB_sv _ _
      rcases hx with h0 | ⟨h0,h1⟩
      case' inl=>
        have g0:¬ (k:Int) > 0:=by omega
        simp (config:={ maxSteps:=1000000 }) only [w1,w2,g0,Nat.reduceEqDiff,↓reduceIte,splice,BC,↓PC]
      case' inr=>
        have g0:(k:Int) > 0:=by omega
        have g1:(0:Int)≤((8 * (k - 1):Nat):Int):=by omega
        have g2:m.fdiv (2 ^ (min (8 * (k - 1)) IntKind.u64.bits)) > 0:=h1
        simp (config:={ maxSteps:=1000000 }) only [w1,w2,w3 h0,g0,g1,g2,reduceCtorEq,Nat.reduceEqDiff,↓reduceIte,splice,BC,↓PC]
      all_goals
        rw [den_loop]
        refine den_inv cF_ok (σ:=Nat × List UInt8) (fun s=>[(7,.int .i64 ((s.1:Int) - 1)),(6,.slc 0 0 1 s.2.length none),(4,.int .u8 f),(3,.int .u64 m)])
          (fun s=>[(0,⟨.own 5,bys s.2⟩)]) (fun _=>1) (fun s=>s.1≤k∧s.2++encTail m f s.1=encI n) (fun s=>s.1) (k,[encHd f k]) ⟨[(0,0)],by simp [hb,↓reduceIte,BC],by simp [Nat.reduceEqDiff,↓reduceIte,BC]⟩ ⟨Nat.le_refl _,hI⟩ ?_
        rintro ⟨i,pre⟩ ⟨hi,hpre⟩
        simp only at hi hpre
        have v2:IntKind.i64.wrap ((i:Int) - 1 - 1)=(i:Int) - 1 - 1:=wrap64_eq (by omega) (by omega)
        have hl:=congrArg List.length hpre
        simp only [List.length_append,encTail_len] at hl
        by_cases hi0:i=0
        · have q0:¬ (i:Int) - 1 ≥ 0:=by omega
          subst hi0
          simp only [encTail,List.append_nil] at hpre
          subst hpre
          simp (config:={ maxSteps:=1000000 }) only [Int.reduceGE,Nat.reduceEqDiff,Int.reduceSub,Int.reduceNeg,↓reduceIte,BC,↓PC]
          exact ⟨[(0,0)],by simp [↓reduceIte,BC],by simp [eta,SV.ren,BB]⟩
        · have q0:(i:Int) - 1 ≥ 0:=by omega
          have v3:IntKind.i64.wrap (8 * ((i:Int) - 1))=((8 * (i - 1):Nat):Int):=by rw [wrap64_eq (by omega) (by omega)];omega
          have q1:(0:Int)≤((8 * (i - 1):Nat):Int):=by omega
          have hb2:SV.int .u8 (bitop .xor .u8 (IntKind.u8.wrap (m.fdiv (2 ^ (min (8 * (i - 1)) IntKind.u64.bits)))) f)=SV.byte (flipB (IntKind.u8.wrap (nth8 m (i - 1))) f):=flipB_sv _ _
          simp (config:={ maxSteps:=1000000 }) only [v2,v3,q0,q1,reduceCtorEq,Nat.reduceEqDiff,Nat.reduceAdd,↓reduceIte,splice,BC,↓PC]
          rw [hb2,bytes_app1]
          have hc:encTail m f i=flipB (IntKind.u8.wrap (nth8 m (i - 1))) f :: encTail m f (i - 1):=by
            obtain ⟨j,rfl⟩:∃ j,i=j+1:=⟨i - 1,by omega⟩
            rfl
          rw [hc,← List.singleton_append,← List.append_assoc] at hpre
          have hci:((i - 1:Nat):Int)=(i:Int) - 1:=by omega
          exact ⟨by omega,by omega,(i - 1,_),⟨[(2,0)],by simp [↓reduceIte,BC],by simp [hci,Nat.reduceEqDiff,↓reduceIte,BC]⟩,⟨by omega,hpre⟩,by simp only;omega⟩
    · have g0:(k:Int) > 0:=by omega
      have w2:IntKind.i64.wrap ((k:Int) - 1)=((k - 1:Nat):Int):=by rw [w2];omega
      have w3:IntKind.i64.wrap (8 * ((k - 1:Nat):Int))=((8 * (k - 1):Nat):Int):=by rw [wrap64_eq (by omega) (by omega)];omega
      have g1:(0:Int)≤((8 * (k - 1):Nat):Int):=by omega
      have g2:¬ m.fdiv (2 ^ (min (8 * (k - 1)) IntKind.u64.bits)) > 0:=h1
      simp (config:={ maxSteps:=1000000 }) only [w2,w3,g0,g1,g2,Nat.reduceEqDiff,↓reduceIte,BC,↓PC]
      refine ⟨k - 1,⟨[],by simp [BC],by simp [Nat.reduceEqDiff,↓reduceIte,BC]⟩,⟨by omega,?_⟩,by omega⟩
      rw [← hk]
      obtain ⟨j,rfl⟩:∃ j,k=j+1:=⟨k - 1,by omega⟩
      simp only [Nat.add_sub_cancel] at h1 ⊢
      rw [topK,if_neg h1]
def gInt:GS
  | [.int .i64 n],[]=>some (.slc 0 0 1 (encI n).length none,[(0,⟨.own 5,bys (encI n)⟩)],1)
  | _,_=>none
theorem gInt_ok:FunS Tryz.prog tS 45 gInt:=by
  intro a0 m0 r m1 n1 h
  unfold gInt at h
  split at h
  · cases h;exact ⟨f34 _,by simp [freshB]⟩
  · cases h
end Go.Proofs.YtmhkkalbijbplaaGreatDoor

/- Package wire: the encodings of lists of integers and of texts; likewise of the reference. -/
namespace Go.Proofs.YtmhkkalbijbplaaGreatDoor
open Go Go.Sx
set_option maxRecDepth 100000
set_option linter.unusedVariables false
variable {tS:List (Nat × List SV)}
def tabA:List (FuncId × GS):=[(45,gInt)]
theorem tabA_ok:∀ x ∈ tabA,FunS Tryz.prog tS x.1 x.2:=by
  intro x hx
  simp only [tabA,List.mem_cons,List.not_mem_nil,or_false] at hx
  rcases hx with rfl
  exact gInt_ok
def encL:List Int→List UInt8
  | []=>[]
  | x :: l=>encI x++encL l
theorem encL_len:∀ l,(encL l).length≤9 * l.length
  | []=>Nat.le_refl _
  | x :: l=>by
    have:=encL_len l
    have:=encI_len x
    simp only [encL,List.length_append,List.length_cons];omega
def encIs (l:List Int):List UInt8:=encI l.length++encL l

theorem f31 (l:List Int) (hl:l.length≤1000) (cap:Option Nat) :
    Fun Tryz.prog tS 51 [.slc 0 0 1 l.length cap] [(0,⟨.view,ints l⟩)] 1 (.slc 1 0 1 (encIs l).length none) [(1,⟨.own 5,bys (encIs l)⟩)] 2:=by
  refine fun_anyG none (callS tabA cF) (callS_ok tabA_ok cF_ok) ck51 (Nat.le_of_ble_eq_true rfl) (by decide) ?_
  conv in mkSF _ _=>(reduce;simp only [u8lit,UInt8.reduceOfNat,Int.reduceOfNat,Int.reduceNegSucc])
  rw [exG_mk]
  have hL:=encL_len l
  have hI:=encI_len l.length
  have hT:(encIs l).length≤9 * (l.length+1):=by unfold encIs;simp;omega
  simp (config:={ maxSteps:=1000000 }) only [tabA,gInt,reduceCtorEq,Nat.reduceEqDiff,Nat.reduceAdd,↓reduceIte,BC,↓PC]
  rw [den_loop]
  refine den_inv (callS_ok tabA_ok cF_ok) (σ:=Nat × List UInt8) (fun s=>[(11,.int .i64 (s.1:Int)),(10,.int .i64 (l.length:Int)),(9,.slc 0 0 1 l.length cap),(3,.slc 1 0 1 s.2.length none)])
    (fun s=>[(1,⟨.own 5,bys s.2⟩),(0,⟨.view,ints l⟩)]) (fun _=>2) (fun s=>s.1≤l.length∧s.2++encL (l.drop s.1)=encIs l) (fun s=>l.length - s.1) (0,encI l.length) ?_ ⟨Nat.zero_le _,rfl⟩ ?_
  · exact ⟨[(0,0),(1,0)],by simp [Nat.reduceAdd,Nat.reduceLeDiff,↓reduceIte,BC],by simp [Nat.reduceAdd,Nat.reduceEqDiff,Nat.reduceLeDiff,↓reduceIte,BC]⟩
  · rintro ⟨i,pre⟩ ⟨hi,hpre⟩
    simp only at hi hpre
    have hlen:=congrArg List.length hpre
    simp only [List.length_append] at hlen
    by_cases h:i < l.length
    · have c1:(i:Int) < (l.length:Int):=by omega
      have c2:(0:Int)≤(i:Int):=by omega
      have wi:IntKind.i64.wrap ((i:Int)+1)=((i+1:Nat):Int):=by rw [wrap64_eq (by omega) (by omega)];omega
      obtain ⟨x,hx⟩:∃ x,l[i]?=some x:=⟨_,List.getElem?_eq_getElem h⟩
      have hd:l.drop i=x :: l.drop (i+1):=by
        rw [List.drop_eq_getElem_cons h]
        rw [List.getElem?_eq_getElem h] at hx;cases hx;rfl
      rw [hd] at hpre
      simp only [encL,← List.append_assoc] at hpre
      have hlen2:=congrArg List.length hpre
      simp only [List.length_append] at hlen2
      have gx:=get_ints hx
      simp (config:={ maxSteps:=1000000 }) only [gInt,h,c1,c2,wi,gx,reduceCtorEq,Nat.reduceEqDiff,Nat.reduceAdd,↓reduceIte,BC,↓PC]
      rw [bytes_app]
      exact ⟨by omega,by omega,(i+1,_),⟨[(0,0),(3,0)],by simp [Nat.reduceAdd,Nat.reduceLeDiff,↓reduceIte,reduceCtorEq,BC],by simp [Nat.reduceAdd,Nat.reduceEqDiff,Nat.reduceLeDiff,↓reduceIte,BC]⟩,⟨by simp only;omega,hpre⟩,by simp only;omega⟩
    · obtain rfl:i=l.length:=by omega
      simp only [List.drop_length,encL,List.append_nil] at hpre
      subst hpre
      have c1:¬ (l.length:Int) < (l.length:Int):=by omega
      simp (config:={ maxSteps:=1000000 }) only [c1,Nat.reduceEqDiff,↓reduceIte,BC,↓PC]
      exact ⟨[(0,0),(1,0)],by simp [Nat.reduceAdd,Nat.reduceLeDiff,↓reduceIte,BC],by simp [Nat.reduceAdd,Nat.reduceLeDiff,BB]⟩

def encS (s:List UInt8):List UInt8:=encI s.length++s
theorem f33 (s:List UInt8) (hs:s.length≤2 ^ 39):Fun Tryz.prog tS 43 [.str s] [] 0 (.slc 0 0 1 (encS s).length none) [(0,⟨.own 5,bys (encS s)⟩)] 1:=by
  refine fun_anyG none (callS tabA cF) (callS_ok tabA_ok cF_ok) ck43 (Nat.le_of_ble_eq_true rfl) (by decide) ?_
  conv in mkSF _ _=>(reduce;simp only [u8lit,UInt8.reduceOfNat,Int.reduceOfNat,Int.reduceNegSucc])
  rw [exG_mk]
  have hI:=encI_len s.length
  simp (config:={ maxSteps:=1000000 }) only [tabA,gInt,reduceCtorEq,Nat.reduceEqDiff,Nat.reduceAdd,↓reduceIte,BC,↓PC]
  exact ⟨by omega,by omega,[(1,0)],by simp [encS,bytes_app,↓reduceIte,BC],by simp [encS,BB]⟩
def gBytes:GS
  | [.str s],[]=>if s.length≤2 ^ 39 then some (.slc 0 0 1 (encS s).length none,[(0,⟨.own 5,bys (encS s)⟩)],1) else none
  | _,_=>none
theorem gBytes_ok:FunS Tryz.prog tS 43 gBytes:=by
  intro a0 m0 r m1 n1 h
  unfold gBytes at h
  split at h
  · split at h
    · cases h
      exact ⟨f33 _ (by assumption),by simp [freshB]⟩
    · cases h
  · cases h
end Go.Proofs.YtmhkkalbijbplaaGreatDoor

/- The digest of parts: hash.Of. -/
namespace Go.Proofs.YtmhkkalbijbplaaGreatDoor
open Go Go.Sx
set_option maxRecDepth 100000
set_option linter.unusedVariables false
variable {tS:List (Nat × List SV)}
def strs (ps:List (List UInt8)):List SV:=ps.map SV.str
theorem flat_strs:∀ ps:List (List UInt8),SV.flatL (strs ps)=true
  | []=>rfl
  | p :: ps=>by simp only [strs,List.map_cons,SV.flatL,SV.flat,Bool.true_and];exact flat_strs ps
theorem ren_strs (η:Nat→Nat × Nat) (ps:List (List UInt8)):SV.renL η (strs ps)=strs ps:=SV.flatL_ren η _ (flat_strs ps)
theorem len_strs (ps:List (List UInt8)):(strs ps).length=ps.length:=by simp [strs]
theorem get_strs {ps:List (List UInt8)} {j:Nat} {p:List UInt8} (h:ps[j]?=some p):(strs ps)[j]?=some (.str p):=by simp [strs,h]
theorem gBytes_eq {s:List UInt8} (h:s.length≤2 ^ 39):gBytes [.str s] []=some (.slc 0 0 1 (encS s).length none,[(0,⟨.own 5,bys (encS s)⟩)],1):=by
  simp [gBytes,h]
def ofM (tag:Int) (ps:List (List UInt8)):List UInt8:=wrapB tag :: (ps.map encS).flatten
def ofS (tag:Int) (ps:List (List UInt8)):List UInt8:=(sumS (ofM tag ps)).take 16
theorem ofM_step {tag:Int} {ps:List (List UInt8)} {j:Nat} {p:List UInt8} (h:ps[j]?=some p):ofM tag (ps.take j)++encS p=ofM tag (ps.take (j+1)):=by
  unfold ofM
  rw [List.take_add_one,h]
  simp
theorem flat_le {ps:List (List UInt8)} {j:Nat}:(((ps.take j).map encS).flatten).length≤((ps.map encS).flatten).length:=by
  have:=congrArg (fun l=>((l.map encS).flatten).length) (List.take_append_drop j ps)
  simp only [List.map_append,List.flatten_append,List.length_append] at this
  omega
theorem sumS_len (m:List UInt8):(sumS m).length=32:=outS_len _
theorem ofS_len (tag:Int) (ps:List (List UInt8)):(ofS tag ps).length=16:=by simp [ofS,sumS_len]
theorem splice_all {a b:List SV} (h:b.length=a.length):splice a 0 b=b:=by
  have:=splice_app (a:=[]) (b:=a) (c:=[]) (k:=0) (d:=b) rfl h
  simpa using this
def z16:List SV:=List.replicate 16 (.int .u8 0)
def cOf:CallT:=callS [(43,gBytes)] (callX tabStr)
theorem tabBy_ok:∀ x ∈ [((43:FuncId),gBytes)],FunS Tryz.prog tS x.1 x.2:=by
  intro x hx
  simp only [List.mem_cons,List.not_mem_nil,or_false] at hx
  subst hx
  exact gBytes_ok
theorem cOf_ok:∀ f a m n K,cOf f a m n K→callT Tryz.prog tH f a m n K:=callS_ok tabBy_ok (callX_ok tabStr_ok)
set_option maxHeartbeats 4000000 in
theorem f39 (tag:Int) (ps:List (List UInt8)) (hp:∀ p ∈ ps,p.length≤2 ^ 39) (hT:(ofM tag ps).length < 2 ^ 57) (hk:ps.length < 2 ^ 60) (cap:Option Nat) (hcap:CapOk cap ps.length) :
    Fun Tryz.prog tH 131 [.int .i64 tag,.slc 0 0 1 ps.length cap] [(0,⟨.view,strs ps⟩)] 1 (.agg (bys (ofS tag ps))) [] 1:=by
  refine fun_valG none cOf cOf_ok ck131 (Nat.le_of_ble_eq_true rfl) (fun η=>by simp only [SV.ren,ren_bytes]) ?_
  conv in mkSF _ _=>(reduce;simp only [u8lit,UInt8.reduceOfNat,Int.reduceOfNat,Int.reduceNegSucc])
  rw [exG_mk]
  have rH:∀ η (h:HS),SV.renL η h.l=h.l:=HS.l_ren
  have hb0:hs0.b.length=64:=rfl
  have hfl:=HS.l_flat
  have g0:gBeg []=some (.agg hs0.l):=rfl
  have l0:=HS.l_len hb0
  have tg:Sx.byteOf (SV.int .u8 (IntKind.u8.wrap tag))=wrapB tag:=rfl
  have ig:isU8 (SV.int .u8 (IntKind.u8.wrap tag))=true:=rfl
  have hlT:(ofM tag ps).length=1+((ps.map encS).flatten).length:=by simp [ofM];omega
  have ga:=gAdd_eq (h:=hs0) (t:=[wrapB tag]) hb0 (by show 0+1 < 2 ^ 60;decide)
  have ll:∀ t,(hs0.add t).l.length=73:=fun t=>HS.l_len (hs0_len t)
  simp (config:={ maxSteps:=1000000 }) only [cOf,tabStr,↓g0,hfl,tg,ig,↓ga,ll,reduceCtorEq,Nat.reduceEqDiff,Nat.reduceAdd,Nat.reduceLeDiff,↓reduceIte,evA,upd,splice,BC,↓PC]
  have m0:hs0.add [wrapB tag]=hs0.add (ofM tag (ps.take 0)):=rfl
  rw [m0,den_loop]
  have rS:∀ η,SV.renL η (strs ps)=strs ps:=fun η=>ren_strs η ps
  have rz:∀ η,SV.renL η z16=z16:=fun η=>SV.flatL_ren η z16 rfl
  refine den_inv cOf_ok (σ:=Nat) (fun j=>[(17,.int .i64 (j:Int)),(16,.int .i64 (ps.length:Int)),(15,.slc 0 0 1 ps.length cap),(5,.ptr 2 0),(4,.ptr 1 0)])
    (fun j=>[(2,⟨.own 151,(hs0.add (ofM tag (ps.take j))).l⟩),(1,⟨.own 24,z16⟩),(0,⟨.view,strs ps⟩)]) (fun _=>3) (fun j=>j≤ps.length) (fun j=>ps.length - j) 0 ?_ (Nat.zero_le _) ?_
  · exact ⟨[(0,0),(1,0),(3,0)],by simp only [rH,rS,rz,Nat.reduceAdd,Nat.reduceSub,Nat.reduceEqDiff,Nat.reduceLT,Nat.reduceLeDiff,↓reduceIte,reduceCtorEq,BC] <;> rfl,by simp [Nat.reduceAdd,Nat.reduceEqDiff,Nat.reduceLT,Nat.reduceLeDiff,↓reduceIte,BC]⟩
  · intro j hj
    have hln:=len_strs ps
    by_cases hj2:j < ps.length
    · obtain ⟨p,hpj⟩:∃ p,ps[j]?=some p:=⟨ps[j],by simp [hj2]⟩
      have hpm:p ∈ ps:=List.mem_of_getElem? hpj
      have gp:=get_strs hpj
      have c1:(j:Int) < (ps.length:Int):=by omega
      have c2:(0:Int)≤(j:Int):=by omega
      have v4:IntKind.i64.wrap ((j:Int)+1)=((j+1:Nat):Int):=by rw [wrap64_eq (by omega) (by omega)];omega
      have gb:=gBytes_eq (hp p hpm)
      have hst:=ofM_step (tag:=tag) hpj
      have hle:(ofM tag (ps.take (j+1))).length≤(ofM tag ps).length:=by
        have:=flat_le (ps:=ps) (j:=j+1)
        simp only [ofM,List.length_cons]
        omega
      have hle2:(ofM tag (ps.take j)).length+(encS p).length=(ofM tag (ps.take (j+1))).length:=by rw [← hst];simp
      have ga2:=gAdd_eq (h:=hs0.add (ofM tag (ps.take j))) (t:=encS p) (hs0_len _) (by rw [hs0_n];omega)
      have l73:=ll (ofM tag (ps.take j))
      have l73':=ll (ofM tag (ps.take (j+1)))
      have t73:∀ t,List.take 73 (hs0.add t).l=(hs0.add t).l:=fun t=>HS.l_take (hs0_len t)
      have sp:splice (hs0.add (ofM tag (ps.take j))).l 0 (hs0.add (ofM tag (ps.take (j+1)))).l=(hs0.add (ofM tag (ps.take (j+1)))).l:=by
        have:=splice_app (a:=[]) (b:=(hs0.add (ofM tag (ps.take j))).l) (c:=[]) (k:=0) (d:=(hs0.add (ofM tag (ps.take (j+1)))).l) rfl (by rw [ll,ll])
        simpa using this
      rw [HS.add_app,hst] at ga2
      have tb:=take_bytes (encS p)
      have mb:=map_byteOf (encS p)
      have au:=all_isU8 (encS p)
      simp (config:={ maxSteps:=1000000 }) only [hln,c1,c2,v4,gp,↓gb,l73,l73',t73,↓ga2,sp,tb,mb,au,hfl,reduceCtorEq,Nat.reduceEqDiff,Nat.reduceAdd,Nat.reduceLeDiff,↓reduceIte,evA,upd,BC,↓PC]
      exact ⟨hj2,j+1,⟨[(0,0),(1,0),(2,0)],by simp only [rH,rS,rz,Nat.reduceAdd,Nat.reduceSub,Nat.reduceEqDiff,Nat.reduceLT,Nat.reduceLeDiff,↓reduceIte,reduceCtorEq,BC],by simp [Nat.reduceAdd,Nat.reduceEqDiff,Nat.reduceLT,Nat.reduceLeDiff,↓reduceIte,BC]⟩,by omega,by omega⟩
    · obtain rfl:j=ps.length:=by omega
      have e1:ps.take ps.length=ps:=List.take_length
      have gs:=gSum_eq (h:=hs0.add (ofM tag ps)) (hs0_len _) (by rw [hs0_n];omega)
      rw [hs0_n,HS.add_app] at gs
      have gs:gSum [.agg (hs0.add (ofM tag ps)).l]=some (.agg (bys (sumS (ofM tag ps)))):=gs
      have hx:(sumS (ofM tag ps)).length=32:=sumS_len _
      generalize hX:sumS (ofM tag ps)=X at *
      have c3:decide ((ps.length:Int) < (ps.length:Int))=false:=by simp
      have ho:ofS tag ps=X.take 16:=by unfold ofS;rw [hX]
      have t16:List.take 16 (bys X)=bys (X.take 16):=by simp [bys,List.map_take]
      have l16:(X.take 16).length=16:=by simp [hx]
      have hxl:(bys X).length=32:=by rw [len_bytes,hx]
      have t73:=HS.l_take (hs0_len (ofM tag ps))
      have l73:=ll (ofM tag ps)
      rw [e1,ho]
      simp (config:={ maxSteps:=1000000 }) only [c3,l73,t73,↓gs,hfl,hxl,reduceCtorEq,Nat.reduceEqDiff,Nat.reduceAdd,Nat.reduceLT,Int.reduceToNat,Int.reduceLE,↓reduceIte,upd,BC,↓PC]
      have sX:∀ z:List SV,z.length=32→splice z 0 (bys X)=bys X:=fun z hz=>splice_all (by rw [hxl,hz])
      have lY:(bys (X.take 16)).length=16:=by rw [len_bytes,l16]
      have sY:splice z16 0 (bys (X.take 16))=bys (X.take 16):=splice_all (by rw [lY];rfl)
      rw [sX,t16,sY,List.take_of_length_le (by omega:(bys (X.take 16)).length≤16)]
      · exact ⟨by omega,by omega,by omega,by decide,by omega,rfl⟩
      · rfl
def unStr:List SV→Option (List (List UInt8))
  | []=>some []
  | .str s :: l=>match unStr l with
    | some r=>some (s :: r)
    | none=>none
  | _=>none
theorem unStr_strs:∀ ps:List (List UInt8),unStr (strs ps)=some ps
  | []=>rfl
  | p :: ps=>by simp only [strs,List.map_cons,unStr];rw [show List.map SV.str ps=strs ps from rfl,unStr_strs ps]
theorem unStr_some:∀ {l:List SV} {ps:List (List UInt8)},unStr l=some ps→l=strs ps
  | [],ps,h=>by simp only [unStr] at h;cases h;rfl
  | x :: l,ps,h=>by
    unfold unStr at h
    split at h
    · rename_i he;cases he
    · rename_i s l' he
      cases he
      split at h
      · rename_i r hr;cases h;rw [unStr_some hr];rfl
      · cases h
    · cases h
def okT (tag:Int) (ps:List (List UInt8)):Prop:=(∀ p ∈ ps,p.length≤2 ^ 39)∧(ofM tag ps).length < 2 ^ 37∧ps.length < 2 ^ 37
instance (tag:Int) (ps:List (List UInt8)):Decidable (okT tag ps):=by unfold okT;infer_instance
def gOf:GS
  | [.int .i64 tag,.slc 0 0 1 len cap],[(0,⟨.view,cells⟩)]=>match unStr cells with
    | some ps=>match capB cap ps.length with
      | true=>if len=ps.length∧okT tag ps then some (.agg (bys (ofS tag ps)),[],1) else none
      | _=>none
    | none=>none
  | _,_=>none
theorem gOf_ok:FunS Tryz.prog tH 131 gOf:=by
  intro a0 m0 r m1 n1 h
  unfold gOf at h
  split at h
  · split at h
    · rename_i ps hps
      split at h
      · rename_i hcap
        split at h
        · rename_i hc
          cases h
          obtain ⟨rfl,h1,h2,h3⟩:=hc
          rw [unStr_some hps]
          exact ⟨f39 _ ps h1 (by omega) (by omega) _ (capB_ok hcap),by simp [freshB]⟩
        · cases h
      · cases h
    · cases h
  · cases h
end Go.Proofs.YtmhkkalbijbplaaGreatDoor

/- The reference's rotation. -/
namespace Go.Proofs.YtmhkkalbijbplaaGreatDoor
open Go Go.Sx
set_option maxRecDepth 100000
set_option linter.unusedSimpArgs false
set_option linter.unusedVariables false
variable {tS:List (Nat × List SV)}
theorem or_comm32 (a b:Int):bitop .or .u32 a b=bitop .or .u32 b a:=by
  unfold bitop
  simp only
  rw [BitVec.or_comm]
theorem f90 (n:Int) (r:Nat) (h1:1≤r) (h2:r≤31):Fun Tryz.prog tS 165 [.int .u32 n,.int .i64 (r:Int)] [] 0 (.int .u32 (rotI n r)) [] 0:=by
  refine fun_anyG none cF cF_ok ck165 (Nat.le_of_ble_eq_true rfl) (by decide) ?_
  conv in mkSF _ _=>(reduce;simp only [u8lit,UInt8.reduceOfNat,Int.reduceOfNat,Int.reduceNegSucc])
  rw [exG_mk]
  have c1:(0:Int)≤(r:Int):=by omega
  have w1:IntKind.i64.wrap (32 - (r:Int))=((32 - r:Nat):Int):=by rw [wrap64_eq (by omega) (by omega)];omega
  simp (config:={ maxSteps:=1000000 }) only [c1,w1,Int.reduceGE,Int.reduceGT,undef,Int.reduceBNe,Int.reduceBEq,Nat.reduceBNe,Nat.reduceBEq,eqPat,eqTag,reduceCtorEq,Nat.reduceEqDiff,Nat.reduceAdd,Nat.reduceSub,Nat.reduceMul,Nat.reduceDiv,Nat.reduceLeDiff,Nat.reduceLT,Int.reduceToNat,Int.reduceLT,Int.reduceLE,Int.reduceAdd,Int.reduceSub,Int.reduceMul,Int.reduceNeg,Int.reduceEq,Int.reduceNe,evW,baseD,stBlk,touch,clear,untouched,updsW,↓reduceIte,evA,upd,splice,keysOf,kvOf,BC,↓PC]
  exact ⟨by omega,[],by simp [Nat.reduceAdd,Nat.reduceSub,Nat.reduceEqDiff,Nat.reduceLT,Nat.reduceLeDiff,↓reduceIte,List.forall_mem_cons,reduceCtorEq,Option.some_inj,BC],or_comm32 _ _⟩
def gRotR:List SV→Option SV
  | [.int .u32 n,.int .i64 (.ofNat r)]=>if 1≤r∧r≤31 then some (.int .u32 (rotI n r)) else none
  | _=>none
theorem g90 {n:Int} {r:Nat} (h1:1≤r) (h2:r≤31):gRotR [.int .u32 n,.int .i64 (r:Int)]=some (.int .u32 (rotI n r)):=by
  show gRotR [.int .u32 n,.int .i64 (.ofNat r)]=_
  simp only [gRotR]
  rw [if_pos ⟨h1,h2⟩]
def tabQ9:Tab:=⟨[(165,gRotR)],[]⟩
end Go.Proofs.YtmhkkalbijbplaaGreatDoor

/- The reference's schedule. -/
namespace Go.Proofs.YtmhkkalbijbplaaGreatDoor
open Go Go.Sx
set_option maxRecDepth 100000
set_option linter.unusedVariables false
variable {tS:List (Nat × List SV)}
theorem tabQ9_ok:TabX Tryz.prog tS tabQ9:=by
  refine ⟨fun x h args r hr=>?_,fun x h=>by simp [tabQ9] at h⟩
  simp only [tabQ9,List.mem_singleton] at h
  subst h
  simp only at hr
  unfold gRotR at hr
  split at hr
  · split at hr
    · rename_i hc
      cases hr
      exact ⟨f90 _ _ hc.1 hc.2,fun η=>by simp only [SV.renL,SV.ren],fun η=>by simp only [SV.renL,SV.ren]⟩
    · cases hr
  · cases hr
theorem wrap_w (x:Int):IntKind.u32.wrap x=((BitVec.ofInt 32 x).toNat:Int):=by
  rw [wrapU32,BitVec.toNat_ofInt]
  omega
theorem push_w (w:W32) (x:Int):pushB (w.toNat:Int) x=((w <<< 8 ||| BitVec.ofInt 32 x).toNat:Int):=by
  unfold pushB
  rw [w_shl w 8 (by decide),wrap_w x,w_or]
theorem or4 (x0 x1 x2 x3:Int):bitop .or .u32 (bitop .or .u32 (bitop .or .u32 (IntKind.u32.wrap (IntKind.u32.wrap x0 * 2 ^ (min 24 IntKind.u32.bits))) (IntKind.u32.wrap (IntKind.u32.wrap x1 * 2 ^ (min 16 IntKind.u32.bits))))
    (IntKind.u32.wrap (IntKind.u32.wrap x2 * 2 ^ (min 8 IntKind.u32.bits)))) (IntKind.u32.wrap x3)=pushB (pushB (pushB (pushB 0 x0) x1) x2) x3:=by
  have e0:pushB 0 x0=((((0:W32) <<< 8) ||| BitVec.ofInt 32 x0).toNat:Int):=push_w 0 x0
  rw [e0,push_w,push_w,push_w,wrap_w x0,wrap_w x1,wrap_w x2,wrap_w x3,w_shl _ 24 (by decide),w_shl _ 16 (by decide),w_shl _ 8 (by decide),w_or,w_or,w_or]
  congr 2
  simp [BitVec.shiftLeft_or_distrib,← BitVec.shiftLeft_add]
set_option maxHeartbeats 4000000 in
theorem f89 (b:List Int) (hb:b.length=64) (cap:Option Nat) (hcap:CapOk cap 64):Fun Tryz.prog tS 164 [.slc 0 0 1 64 cap] [(0,⟨.view,b.map u8⟩)] 1 (.agg ((schI b 64).map u32)) [] 1:=by
  refine fun_valG none (callX tabQ9) (callX_ok tabQ9_ok) ck164 (Nat.le_of_ble_eq_true rfl) (fun η=>ren_u32 η _) ?_
  conv in mkSF _ _=>(reduce;simp only [u8lit,UInt8.reduceOfNat,Int.reduceOfNat,Int.reduceNegSucc])
  rw [exG_mk]
  simp (config:={ maxSteps:=1000000 }) only [tabQ9,reduceCtorEq,Nat.reduceEqDiff,Nat.reduceAdd,↓reduceIte,BC,↓PC]
  rw [den_loop]
  have hW:=fun η t=>cW_ren η b t
  have hM:=fun η t n=>cM_ren η b t n
  have hB:=fun η=>u8_ren η b
  have hz:=fun η=>z64_ren η
  have hlen:(b.map u8).length=64:=by simp [hb]
  refine den_inv (callX_ok tabQ9_ok) (σ:=Nat) (fun t=>[(4,.int .i64 (t:Int)),(3,.ptr 2 0),(2,.ptr 1 0),(0,.slc 0 0 1 64 cap)])
    (fun t=>[(2,⟨.own 169,cW b t⟩),(1,⟨.own 169,z64⟩),(0,⟨.view,b.map u8⟩)]) (fun _=>3) (fun t=>t≤16) (fun t=>16 - t) 0 ?_ (Nat.zero_le _) ?_
  · exact ⟨[(0,0),(1,0),(2,0)],by simp only [hW,hB,hz,Nat.reduceAdd,Nat.reduceSub,Nat.reduceLT,Nat.reduceLeDiff,↓reduceIte,reduceCtorEq,BC];trivial,by simp [Nat.reduceAdd,Nat.reduceEqDiff,Nat.reduceLT,Nat.reduceLeDiff,↓reduceIte,reduceCtorEq,BC]⟩
  · intro t ht
    by_cases h16:t < 16
    · have i1:(t:Int) < 16:=by omega
      have i0:(0:Int)≤(t:Int):=by omega
      have i3:(t:Int) < 64:=by omega
      have wt:IntKind.i64.wrap ((t:Int)+1)=((t+1:Nat):Int):=by rw [wrap64 (by omega) (by omega)];omega
      have w1:IntKind.i64.wrap (4 * (t:Int))=((4 * t:Nat):Int):=by rw [wrap64 (by omega) (by omega)];omega
      have w2:IntKind.i64.wrap (((4 * t:Nat):Int)+1)=((4 * t+1:Nat):Int):=by rw [wrap64 (by omega) (by omega)];omega
      have w3:IntKind.i64.wrap (((4 * t:Nat):Int)+2)=((4 * t+2:Nat):Int):=by rw [wrap64 (by omega) (by omega)];omega
      have w4:IntKind.i64.wrap (((4 * t:Nat):Int)+3)=((4 * t+3:Nat):Int):=by rw [wrap64 (by omega) (by omega)];omega
      have hj:∀ j,4 * t+j < 64→(b.map u8)[4 * t+j]?=some (u8 (b.getD (4 * t+j) 0)):=by
        intro j hj
        simp [List.getD_eq_getElem?_getD,show 4 * t+j < b.length by omega]
      have h0:=hj 0 (by omega)
      rw [Nat.add_zero] at h0
      have h1:=hj 1 (by omega)
      have h2:=hj 2 (by omega)
      have h3:=hj 3 (by omega)
      have v0:(0:Int)≤((4 * t:Nat):Int)∧((4 * t:Nat):Int) < 64:=by omega
      have v1:(0:Int)≤((4 * t+1:Nat):Int)∧((4 * t+1:Nat):Int) < 64:=by omega
      have v2:(0:Int)≤((4 * t+2:Nat):Int)∧((4 * t+2:Nat):Int) < 64:=by omega
      have v3:(0:Int)≤((4 * t+3:Nat):Int)∧((4 * t+3:Nat):Int) < 64:=by omega
      simp (config:={ maxSteps:=1000000 }) only [h0,h1,h2,h3,hlen,i1,i0,i3,w1,w2,w3,w4,v0.1,v0.2,v1.1,v1.2,v2.1,v2.2,v3.1,v3.2,cW_len (show t≤64 by omega),cW_put (show t < 64 by omega),wt,u8,or4,reduceCtorEq,Nat.reduceEqDiff,Nat.reduceLeDiff,Int.reduceToNat,Int.reduceLE,↓reduceIte,upd,BC,↓PC]
      refine ⟨by omega,by omega,by omega,by omega,by omega,t+1,⟨[(0,0),(1,0),(2,0)],?_,by simp [Nat.reduceAdd,Nat.reduceEqDiff,Nat.reduceLT,Nat.reduceLeDiff,↓reduceIte,reduceCtorEq,BC]⟩,by omega,by omega⟩
      rw [← cM_step (b:=b) (t:=t),show nxt b (schI b t) t=be4 b t from if_pos h16]
      unfold be4
      simp only [hM,hB,hz,Nat.reduceAdd,Nat.reduceSub,Nat.reduceLT,Nat.reduceLeDiff,↓reduceIte,reduceCtorEq,BC]
    · obtain rfl:t=16:=by omega
      simp (config:={ maxSteps:=1000000 }) only [reduceCtorEq,Nat.reduceEqDiff,Int.reduceLT,↓reduceIte,BC,↓PC]
      rw [den_loop]
      refine den_inv (callX_ok tabQ9_ok) (σ:=Nat) (fun t=>[(5,.int .i64 (t:Int)),(3,.ptr 2 0),(2,.ptr 1 0)])
        (fun t=>[(2,⟨.own 169,cW b t⟩),(1,⟨.own 169,z64⟩),(0,⟨.view,b.map u8⟩)]) (fun _=>3) (fun t=>16≤t∧t≤64) (fun t=>64 - t) 16 ?_ (by decide) ?_
      · exact ⟨[(0,0),(1,0),(2,0)],by simp only [hW,hB,hz,Nat.reduceAdd,Nat.reduceSub,Nat.reduceLT,Nat.reduceLeDiff,↓reduceIte,reduceCtorEq,BC],by simp [Nat.reduceAdd,Nat.reduceEqDiff,Nat.reduceLT,Nat.reduceLeDiff,↓reduceIte,BC]⟩
      · intro t ht
        by_cases h64:t < 64
        · have i1:(t:Int) < 64:=by omega
          have i0:(0:Int)≤(t:Int):=by omega
          have wt:IntKind.i64.wrap ((t:Int)+1)=((t+1:Nat):Int):=by rw [wrap64 (by omega) (by omega)];omega
          have a1:IntKind.i64.wrap ((t:Int) - 15)=((t - 15:Nat):Int):=by rw [wrap64 (by omega) (by omega)];omega
          have a2:IntKind.i64.wrap ((t:Int) - 2)=((t - 2:Nat):Int):=by rw [wrap64 (by omega) (by omega)];omega
          have a3:IntKind.i64.wrap ((t:Int) - 16)=((t - 16:Nat):Int):=by rw [wrap64 (by omega) (by omega)];omega
          have a4:IntKind.i64.wrap ((t:Int) - 7)=((t - 7:Nat):Int):=by rw [wrap64 (by omega) (by omega)];omega
          have b1:(0:Int)≤((t - 15:Nat):Int)∧((t - 15:Nat):Int) < 64:=by omega
          have b2:(0:Int)≤((t - 2:Nat):Int)∧((t - 2:Nat):Int) < 64:=by omega
          have b3:(0:Int)≤((t - 16:Nat):Int)∧((t - 16:Nat):Int) < 64:=by omega
          have b4:(0:Int)≤((t - 7:Nat):Int)∧((t - 7:Nat):Int) < 64:=by omega
          have c1:(cW b t)[t - 15]?=_:=cW_get (by omega)
          have c2:(cW b t)[t - 2]?=_:=cW_get (by omega)
          have c3:(cW b t)[t - 16]?=_:=cW_get (by omega)
          have c4:(cW b t)[t - 7]?=_:=cW_get (by omega)
          have g7:∀ n,gRotR [.int .u32 n,.int .i64 7]=some (.int .u32 (rotI n 7)):=fun n=>g90 (r:=7) (by decide) (by decide)
          have g18:∀ n,gRotR [.int .u32 n,.int .i64 18]=some (.int .u32 (rotI n 18)):=fun n=>g90 (r:=18) (by decide) (by decide)
          have g17:∀ n,gRotR [.int .u32 n,.int .i64 17]=some (.int .u32 (rotI n 17)):=fun n=>g90 (r:=17) (by decide) (by decide)
          have g19:∀ n,gRotR [.int .u32 n,.int .i64 19]=some (.int .u32 (rotI n 19)):=fun n=>g90 (r:=19) (by decide) (by decide)
          simp (config:={ maxSteps:=1000000 }) only [i1,i0,a1,a2,a3,a4,b1.1,b2.1,b3.1,b4.1,b1.2,b2.2,b3.2,b4.2,c1,c2,c3,c4,↓g7,↓g18,↓g17,↓g19,cW_len ht.2,cW_put h64,wt,u32,reduceCtorEq,Nat.reduceEqDiff,Nat.reduceLeDiff,Int.reduceToNat,Int.reduceLE,↓reduceIte,upd,BC,↓PC]
          refine ⟨by omega,t+1,⟨[(0,0),(1,0),(2,0)],?_,by simp [Nat.reduceAdd,Nat.reduceEqDiff,Nat.reduceLT,Nat.reduceLeDiff,↓reduceIte,BC]⟩,by omega,by omega⟩
          rw [← cM_step (b:=b) (t:=t),show nxt b (schI b t) t=_ from if_neg (by omega)]
          unfold addI sig0 sig1 shrI
          simp only [hM,hB,hz,Nat.reduceAdd,Nat.reduceSub,Nat.reduceLT,Nat.reduceLeDiff,↓reduceIte,reduceCtorEq,BC]
        · obtain rfl:t=64:=by omega
          simp (config:={ maxSteps:=1000000 }) only [reduceCtorEq,Nat.reduceEqDiff,Int.reduceLT,↓reduceIte,upd,splice,BC,↓PC]
          have hl:=cW_len (b:=b) (Nat.le_refl 64)
          have hz:z64.length=64:=by simp [z64]
          have hd:List.drop 64 z64=[]:=List.drop_of_length_le (by omega)
          rw [List.take_of_length_le (by omega:(cW b 64).length≤64),hl,hd,List.append_nil,hl,hz,List.take_of_length_le (by omega:(cW b 64).length≤64),cW_all]
          exact ⟨Nat.le_refl _,rfl,Nat.le_refl _,Nat.le_refl _,rfl⟩
theorem gSchR_ok:FunS Tryz.prog tS 164 gSch:=by
  intro a0 m0 r m1 n1 h
  unfold gSch at h
  split at h
  · rename_i cap cells
    split at h
    · rename_i b hb
      split at h
      · rename_i h1 h2
        cases h
        rw [unI8_some hb]
        exact ⟨f89 b (Nat.eq_of_beq_eq_true h1) cap (capB_ok h2),by simp [freshB]⟩
      · cases h
    · cases h
  · cases h
end Go.Proofs.YtmhkkalbijbplaaGreatDoor

/- The reference's hash of a message. -/
namespace Go.Proofs.YtmhkkalbijbplaaGreatDoor
open Go Go.Sx
set_option maxRecDepth 100000
set_option linter.unusedVariables false
def tH2:List (Nat × List SV):=[(0,kc.map u32),(1,kc.map u32)]
def tabRef:List (FuncId × GS):=[(163,gPad),(164,gSch)]
theorem tabRef_ok {tS:List (Nat × List SV)}:∀ x ∈ tabRef,FunS Tryz.prog tS x.1 x.2:=by
  intro x hx
  simp only [tabRef,List.mem_cons,List.not_mem_nil,or_false] at hx
  rcases hx with rfl | rfl
  · exact gPad_ok
  · exact gSchR_ok
def cRef:CallT:=callS tabRef (callX tabQ9)
theorem cRef_ok {tS:List (Nat × List SV)}:∀ f a m n K,cRef f a m n K→callT Tryz.prog tS f a m n K:=callS_ok tabRef_ok (callX_ok tabQ9_ok)
theorem gPad_eq {m:List UInt8} {cap:Option Nat} (hm:m.length≤2 ^ 38) (hcap:CapOk cap m.length) :
    gPad [.slc 0 0 1 m.length cap] [(0,⟨.view,bys m⟩)]=some (.slc 1 0 1 (m++padS m.length).length none,[(1,⟨.own 5,bys (m++padS m.length)⟩)],2):=by
  have hcb:capB cap m.length=true:=by
    cases cap with
    | none=>rfl
    | some c=>exact Nat.ble_eq_true_of_le (hcap c rfl)
  unfold gPad
  simp only [unB_bytes,hcb,hm,and_self,if_true]
theorem gSch_eq {b:List UInt8} (hb:b.length=64):gSch [.slc 0 0 1 64 none] [(0,⟨.view,bys b⟩)]=some (.agg ((schI (byI b) 64).map u32),[],1):=by
  unfold gSch
  simp only
  rw [← bys_u8,unI8_map]
  simp only [byI_len,hb]
  rfl
theorem not_eq32 (e:Int):bitop .xor .u32 e 4294967295=notI e:=by
  have h:(if IntKind.u32.signed then (-1:Int) else IntKind.u32.max)=4294967295:=by decide
  unfold notI
  rw [h]
  unfold bitop
  simp only
  rw [BitVec.xor_comm]
theorem lookR:lookT tH2 0=some (kc.map u32):=(rfl)
set_option maxHeartbeats 8000000 in
theorem f74 (m:List UInt8) (hm:m.length≤2 ^ 37) (cap:Option Nat) (hcap:CapOk cap m.length) :
    Fun Tryz.prog tH2 146 [.slc 0 0 1 m.length cap] [(0,⟨.view,bys m⟩)] 1 (.agg (bys (sumS m))) [] 1:=by
  refine fun_valG none cRef cRef_ok ck146 (Nat.le_of_ble_eq_true rfl) (fun η=>by simp only [SV.ren,ren_bytes]) ?_
  conv in mkSF _ _=>(reduce;simp only [u8lit,UInt8.reduceOfNat,Int.reduceOfNat,Int.reduceNegSucc])
  rw [exG_mk]
  have gp:=gPad_eq (m:=m) (cap:=cap) (by omega) hcap
  have tm:=take_bytes m
  simp (config:={ maxSteps:=1000000 }) only [cRef,tabRef,tabQ9,↓gp,tm,lookF,reduceCtorEq,Nat.reduceEqDiff,Nat.reduceAdd,Nat.reduceSub,Nat.reduceLeDiff,Nat.reduceLT,eq_self,frOf,↓reduceIte,↓fillE,Opd.ev,Sx.get,put,putO,del,dels,rd,upd,splice,SV.cells?,SV.one,canLW,canV,canC,belowL,apH,apH1,eta,SV.ren,newOwn,targets,rms,Kind.isOwn,BB,↓PB]
  rw [den_loop]
  have hML:∃ T,(m++padS m.length).length=64 * T:=⟨(m++padS m.length).length / 64,by have:=padS_mod m.length;simp only [List.length_append] at this ⊢;omega⟩
  have hMu:(m++padS m.length).length≤2 ^ 38:=by have:=padS_len m.length;have:=padZ_le m.length;simp only [List.length_append];omega
  have hfin:sumS m=outS (valS (m++padS m.length)):=rfl
  generalize hM:m++padS m.length=M at *
  obtain ⟨T,hT⟩:=hML
  rw [hT,hfin]
  have rB:∀ η (b:List UInt8),SV.renL η (bys b)=bys b:=fun η b=>ren_bytes η b
  have rV:∀ η (s:V8),SV.renL η (s.l.map u32)=s.l.map u32:=fun η s=>ren_w η _
  have rW:∀ η l,SV.renL η (List.map u32 l)=List.map u32 l:=fun η l=>ren_w η l
  have hz:∀ η,SV.renL η z32=z32:=fun η=>outC_ren η iv 0
  have v0:valS (M.take (64 * 0))=iv:=rfl
  have hMl:(bys M).length=64 * T:=by rw [len_bytes,hT]
  refine den_inv cRef_ok (σ:=Nat) (fun t=>[(5,.int .i64 ((64 * t:Nat):Int)),(4,.slc 3 0 1 (64 * T) none),(3,.ptr 2 0),(2,.ptr 1 0)])
    (fun t=>[(3,⟨.own 5,bys M⟩),(2,⟨.own 149,(valS (M.take (64 * t))).l.map u32⟩),(1,⟨.own 141,z32⟩)]) (fun _=>4) (fun t=>t≤T) (fun t=>T - t) 0 ?_ (Nat.zero_le _) ?_
  · exact ⟨[(0,0),(1,0),(2,0),(3,0)],by simp only [v0,rB,rV,hz,EntM,compat,apartM,keysBelow,eta,idHs,rd,Nat.reduceAdd,Nat.reduceSub,Nat.reduceEqDiff,Nat.reduceLT,Nat.reduceLeDiff,↓reduceIte,Kind.isOwn,exists_eq_left',ne_eq,implies_true,false_imp_iff,forall_const,forall_eq_or_imp,forall_eq,BB];exact ⟨rfl,rfl⟩,by simp [frEnt,geto,eta,SV.ren,Nat.reduceAdd,Nat.reduceEqDiff,Nat.reduceLT,Nat.reduceLeDiff,↓reduceIte,BB]⟩
  · intro t ht
    by_cases htT:t < T
    · have c1:((64 * t:Nat):Int) < ((64 * T:Nat):Int):=by omega
      have w1:IntKind.i64.wrap (((64 * t:Nat):Int)+64)=((64 * (t+1):Nat):Int):=by rw [wrap64_eq (by omega) (by omega)];omega
      have k1:(0:Int)≤((64 * t:Nat):Int):=by omega
      have k2:((64 * t:Nat):Int)≤((64 * (t+1):Nat):Int):=by omega
      have kle:64 * t+64≤64 * T:=by omega
      have k3:64 * (t+1) - 64 * t=64:=by omega
      have tk:List.take 64 (List.drop (64 * t) (bys M))=bys ((M.drop (64 * t)).take 64):=by simp [bys,List.map_take,List.map_drop]
      have hbl:((M.drop (64 * t)).take 64).length=64:=by simp;omega
      have gs:=gSch_eq hbl
      have hst:=valS_step (m:=M) (t:=t) (by omega)
      generalize hb:(M.drop (64 * t)).take 64=b at *
      have hsl:(List.map u32 (schI (byI b) 64)).length=64:=by simp [schI_len]
      have hl8:(List.map u32 (valS (M.take (64 * t))).l).length=8:=rfl
      have tk8:List.take 8 (List.map u32 (valS (M.take (64 * t))).l)=List.map u32 (valS (M.take (64 * t))).l:=rfl
      simp (config:={ maxSteps:=1000000 }) only [c1,w1,k1,k2,k3,kle,Option.map_none,tk,↓gs,hsl,hl8,tk8,rW,hMl,lookF,Nat.reduceEqDiff,Nat.reduceAdd,Nat.reduceSub,Nat.reduceLT,eq_self,↓reduceIte,↓binI,Opd.ev,Sx.get,put,putO,del,dels,rd,upd,SV.cells?,canLW,canV,canC,belowL,apH,apH1,SV.ren,newOwn,targets,rms,Kind.isOwn,BB,↓PB]
      have sW:∀ z:List SV,z.length=64→splice z 0 (List.map u32 (schI (byI b) 64))=List.map u32 (schI (byI b) 64):=fun z hz=>splice_all (hsl.trans hz.symm)
      have sV:∀ z:List SV,z.length=8→splice z 0 (List.map u32 (valS (M.take (64 * t))).l)=List.map u32 (valS (M.take (64 * t))).l:=fun z hz=>splice_all (hl8.trans hz.symm)
      rw [sW,sV]
      rotate_left
      · rfl
      · rfl
      refine ⟨by omega,?_⟩
      rw [den_loop]
      generalize hs0:valS (M.take (64 * t))=s0 at *
      obtain ⟨a0,a1,a2,a3,a4,a5,a6,a7⟩:=s0
      generalize hRe:(fun r=>V8.rounds (schI (byI b) 64) ⟨a0,a1,a2,a3,a4,a5,a6,a7⟩ r)=R
      have hR0:R 0=⟨a0,a1,a2,a3,a4,a5,a6,a7⟩:=by rw [← hRe];rfl
      have rWW:∀ η,SV.renL η (List.map u32 (schI (byI b) 64))=List.map u32 (schI (byI b) 64):=fun η=>ren_w η _
      have ru:∀ η n,(u32 n).ren η=u32 n:=fun _ _=>rfl
      generalize hW:List.map u32 (schI (byI b) 64)=W at *
      refine den_inv cRef_ok (σ:=Nat) (fun r=>[(8,.int .i64 (r:Int)),(7,.ptr 5 0),(6,.ptr 4 0),(5,.int .i64 ((64 * t:Nat):Int)),(4,.slc 3 0 1 (64 * T) none),(3,.ptr 2 0),(2,.ptr 1 0)])
        (fun r=>[(5,⟨.own 149,[u32 (R r).a,u32 (R r).b,u32 (R r).c,u32 (R r).d,u32 (R r).e,u32 (R r).f,u32 (R r).g,u32 (R r).h]⟩),(4,⟨.own 169,W⟩),(3,⟨.own 5,bys M⟩),(2,⟨.own 149,[u32 a0,u32 a1,u32 a2,u32 a3,u32 a4,u32 a5,u32 a6,u32 a7]⟩),(1,⟨.own 141,z32⟩)]) (fun _=>6)
        (fun r=>r≤64) (fun r=>64 - r) 0 ?_ (Nat.zero_le _) ?_
      · exact ⟨[(0,0),(1,0),(2,0),(3,0),(4,0),(5,0)],by simp only [V8.l,rB,rWW,ru,hz,hR0,EntM,compat,apartM,keysBelow,eta,idHs,rd,SV.renL,Nat.reduceAdd,Nat.reduceSub,Nat.reduceEqDiff,Nat.reduceLT,Nat.reduceLeDiff,↓reduceIte,Kind.isOwn,exists_eq_left',ne_eq,implies_true,false_imp_iff,forall_const,forall_eq_or_imp,forall_eq,BB] <;> exact ⟨rfl,rfl⟩,by simp [frEnt,geto,eta,SV.ren,Nat.reduceAdd,Nat.reduceEqDiff,Nat.reduceLT,Nat.reduceLeDiff,↓reduceIte,BB]⟩
      · intro r hr
        by_cases h64:r < 64
        · have d1:(r:Int) < 64:=by omega
          have d2:(0:Int)≤(r:Int):=by omega
          have wt:IntKind.i64.wrap ((r:Int)+1)=((r+1:Nat):Int):=by rw [wrap64_eq (by omega) (by omega)];omega
          have gk:(List.map u32 kc)[r]?=some (u32 (kc.getD r 0)):=by
            have:kc.length=64:=rfl
            simp [List.getD_eq_getElem?_getD,show r < kc.length by omega]
          have gw:W[r]?=some (u32 ((schI (byI b) 64).getD r 0)):=by
            rw [← hW]
            simp [List.getD_eq_getElem?_getD,schI_len,h64]
          have hR1:R (r+1)=(R r).round ((schI (byI b) 64).getD r 0) (kc.getD r 0):=by rw [← hRe];rfl
          generalize hk:kc.getD r 0=k at *
          generalize hwt:(schI (byI b) 64).getD r 0=w at *
          rcases hRt:R r with ⟨a,bb,c,d,e,f,g,h⟩
          simp only
          have g6:∀ n,gRotR [.int .u32 n,.int .i64 6]=some (.int .u32 (rotI n 6)):=fun n=>g90 (r:=6) (by decide) (by decide)
          have g11:∀ n,gRotR [.int .u32 n,.int .i64 11]=some (.int .u32 (rotI n 11)):=fun n=>g90 (r:=11) (by decide) (by decide)
          have g25:∀ n,gRotR [.int .u32 n,.int .i64 25]=some (.int .u32 (rotI n 25)):=fun n=>g90 (r:=25) (by decide) (by decide)
          have g2:∀ n,gRotR [.int .u32 n,.int .i64 2]=some (.int .u32 (rotI n 2)):=fun n=>g90 (r:=2) (by decide) (by decide)
          have g13:∀ n,gRotR [.int .u32 n,.int .i64 13]=some (.int .u32 (rotI n 13)):=fun n=>g90 (r:=13) (by decide) (by decide)
          have g22:∀ n,gRotR [.int .u32 n,.int .i64 22]=some (.int .u32 (rotI n 22)):=fun n=>g90 (r:=22) (by decide) (by decide)
          simp (config:={ maxSteps:=1000000 }) only [↓g6,↓g11,↓g25,↓g2,↓g13,↓g22,d1,d2,gk,gw,wt,u32,lookR,not_eq32,SV.flatL,SV.flat,lookF,Nat.reduceEqDiff,Nat.reduceAdd,Nat.reduceLeDiff,Int.reduceToNat,Int.reduceLT,Int.reduceLE,eq_self,↓reduceIte,↓binI,↓fillE,Opd.ev,Sx.get,put,putO,del,dels,rd,upd,splice,SV.cells?,SV.one,BB,↓PB]
          rw [hRt] at hR1
          refine ⟨r+1,⟨[(0,0),(1,0),(2,0),(3,0),(4,0),(5,0)],?_,?_⟩,by omega,by omega⟩
          · simp only [hR1,V8.round,addI,xorI,andI,mixI,rB,rWW,hz,EntM,compat,apartM,keysBelow,eta,idHs,rd,SV.ren,SV.renL,Nat.reduceAdd,Nat.reduceSub,Nat.reduceEqDiff,Nat.reduceLT,Nat.reduceLeDiff,↓reduceIte,Kind.isOwn,exists_eq_left',ne_eq,implies_true,false_imp_iff,forall_const,forall_eq_or_imp,forall_eq,BB]
          · simp only [frEnt,geto,eta,SV.ren,Nat.reduceAdd,Nat.reduceSub,Nat.reduceEqDiff,↓reduceIte,BB]
        · obtain rfl:r=64:=by omega
          rcases hRt:R 64 with ⟨a,bb,c,d,e,f,g,h⟩
          have hcomp:comp ⟨a0,a1,a2,a3,a4,a5,a6,a7⟩ (byI b)=V8.add ⟨a0,a1,a2,a3,a4,a5,a6,a7⟩ ⟨a,bb,c,d,e,f,g,h⟩:=by
            unfold comp;rw [← hRt,← hRe]
          simp only
          simp (config:={ maxSteps:=1000000 }) only [u32,Nat.reduceEqDiff,Int.reduceLT,eq_self,↓reduceIte,↓binI,Opd.ev,Sx.get,put,putO,del,dels,BB,↓PB]
          rw [den_loop]
          refine den_unroll cRef_ok (callT_point _ _) 9 ?_
          simp (config:={ maxSteps:=1000000 }) only [w1,Nat.reduceEqDiff,Nat.reduceAdd,Nat.reduceLeDiff,Int.reduceToNat,Int.reduceLT,Int.reduceLE,Int.reduceAdd,Int.reduceNeg,eq_self,↓reduceIte,↓binI,Opd.ev,Sx.get,put,putO,del,dels,rd,upd,splice,SV.cells?,SV.one,BB,↓PB]
          refine ⟨t+1,⟨[(0,0),(1,0),(2,0),(3,0)],?_,?_⟩,by omega,by omega⟩
          · simp only [hst,hcomp,V8.add,addI,V8.l,u32,rB,hz,EntM,compat,apartM,keysBelow,eta,idHs,rd,SV.ren,SV.renL,Nat.reduceAdd,Nat.reduceSub,Nat.reduceEqDiff,Nat.reduceLT,Nat.reduceLeDiff,↓reduceIte,Kind.isOwn,exists_eq_left',ne_eq,implies_true,false_imp_iff,forall_const,forall_eq_or_imp,forall_eq,BB]
          · simp only [frEnt,geto,eta,SV.ren,Nat.reduceAdd,Nat.reduceSub,Nat.reduceEqDiff,↓reduceIte,BB]
    · obtain rfl:t=T:=by omega
      have eM:M.take (64 * t)=M:=List.take_of_length_le (by omega)
      have c3:decide (((64 * t:Nat):Int) < ((64 * t:Nat):Int))=false:=by simp
      have hl8:(List.map u32 (valS M).l).length=8:=rfl
      rw [eM]
      generalize hS:valS M=S at *
      simp (config:={ maxSteps:=1000000 }) only [c3,Nat.reduceEqDiff,Nat.reduceAdd,eq_self,↓reduceIte,↓binI,Opd.ev,Sx.get,put,putO,del,dels,BB,↓PB]
      rw [den_loop]
      have rC:∀ η i,SV.renL η (outC S i)=outC S i:=fun η i=>outC_ren η S i
      have hzl:z32.length=32:=rfl
      refine den_inv cRef_ok (σ:=Nat) (fun i=>[(13,.int .i64 (i:Int)),(12,.ptr 4 0),(3,.ptr 2 0),(2,.ptr 1 0)]) (fun i=>[(4,⟨.own 141,outC S i⟩),(2,⟨.own 149,List.map u32 S.l⟩),(1,⟨.own 141,z32⟩)]) (fun _=>5)
        (fun i=>i≤32) (fun i=>32 - i) 0 ?_ (Nat.zero_le _) ?_
      · exact ⟨[(0,0),(1,0),(2,0),(3,0),(4,0)],by simp only [rV,hz,outC_z,EntM,compat,apartM,keysBelow,eta,idHs,rd,Nat.reduceAdd,Nat.reduceSub,Nat.reduceEqDiff,Nat.reduceLT,Nat.reduceLeDiff,↓reduceIte,Kind.isOwn,exists_eq_left',ne_eq,implies_true,false_imp_iff,forall_const,forall_eq_or_imp,forall_eq,BB] <;> rfl,by simp [frEnt,geto,eta,SV.ren,Nat.reduceAdd,Nat.reduceEqDiff,Nat.reduceLT,Nat.reduceLeDiff,↓reduceIte,BB]⟩
      · intro i hi
        have lC:=outC_len (s:=S) hi
        by_cases h32:i < 32
        · have c1:(i:Int) < 32:=by omega
          have c2:(0:Int)≤(i:Int):=by omega
          have q1:Int.tdiv (i:Int) 4=((i / 4:Nat):Int):=(Int.ofNat_tdiv i 4).symm
          have q2:Int.tmod (i:Int) 4=((i % 4:Nat):Int):=(Int.ofNat_tmod i 4).symm
          have q3:IntKind.i64.wrap ((i / 4:Nat):Int)=((i / 4:Nat):Int):=wrap64_eq (by omega) (by omega)
          have q4:(0:Int)≤((i / 4:Nat):Int)∧((i / 4:Nat):Int) < 8:=by omega
          have hs:(List.map u32 S.l)[i / 4]?=some (.int .u32 (S.l.getD (i / 4) 0)):=by
            have hl:S.l.length=8:=rfl
            simp [List.getD_eq_getElem?_getD,hl,show i / 4 < 8 by omega,u32]
          have v1:IntKind.i64.wrap (8 * ((i % 4:Nat):Int))=((8 * (i % 4):Nat):Int):=by rw [wrap64_eq (by omega) (by omega)];omega
          have v2:IntKind.i64.wrap (24 - ((8 * (i % 4):Nat):Int))=((24 - 8 * (i % 4):Nat):Int):=by rw [wrap64_eq (by omega) (by omega)];omega
          have v3:(0:Int)≤((24 - 8 * (i % 4):Nat):Int):=by omega
          have v4:IntKind.i64.wrap ((i:Int)+1)=((i+1:Nat):Int):=by rw [wrap64_eq (by omega) (by omega)];omega
          have op:=outC_put (s:=S) h32
          simp (config:={ maxSteps:=1000000 }) only [c1,c2,q1,q2,q3,q4.1,q4.2,hs,v1,v2,v3,v4,lC,op,Nat.reduceEqDiff,Nat.reduceLeDiff,Int.reduceNe,eq_self,↓reduceIte,↓binI,Opd.ev,Sx.get,put,putO,del,dels,rd,upd,SV.cells?,SV.one,BB,↓PB]
          exact ⟨by omega,i+1,⟨[(0,0),(1,0),(2,0),(3,0),(4,0)],by simp only [rV,hz,rC,EntM,compat,apartM,keysBelow,eta,idHs,rd,Nat.reduceAdd,Nat.reduceSub,Nat.reduceEqDiff,Nat.reduceLT,Nat.reduceLeDiff,↓reduceIte,Kind.isOwn,exists_eq_left',ne_eq,implies_true,false_imp_iff,forall_const,forall_eq_or_imp,forall_eq,BB],by simp [frEnt,geto,eta,SV.ren,Nat.reduceAdd,Nat.reduceEqDiff,Nat.reduceLT,Nat.reduceLeDiff,↓reduceIte,BB]⟩,by omega,by omega⟩
        · obtain rfl:i=32:=by omega
          simp (config:={ maxSteps:=1000000 }) only [lC,Nat.reduceEqDiff,Int.reduceLT,eq_self,↓reduceIte,↓binI,↓evRes,Opd.ev,Sx.get,put,putO,del,dels,rd,upd,SV.cells?,retOf,BB,↓PB]
          have tC:List.take 32 (outC S 32)=outC S 32:=List.take_of_length_le (by omega)
          have sC:splice z32 0 (outC S 32)=outC S 32:=splice_all (by rw [lC,hzl])
          rw [tC,sC,tC]
          exact ⟨lC,by omega,by omega,outC_all S⟩
def gSumR:GS
  | [.slc 0 0 1 len cap],[(0,⟨.view,cells⟩)]=>match unB cells with
    | some m=>match capB cap m.length with
      | true=>if len=m.length∧m.length≤2 ^ 37 then some (.agg (bys (sumS m)),[],1) else none
      | _=>none
    | none=>none
  | _,_=>none
theorem gSumR_ok:FunS Tryz.prog tH2 146 gSumR:=by
  intro a0 m0 r m1 n1 h
  unfold gSumR at h
  split at h
  · split at h
    · rename_i m hm
      split at h
      · rename_i hcap
        split at h
        · rename_i hc
          cases h
          obtain ⟨rfl,h2⟩:=hc
          rw [unB_some hm]
          exact ⟨f74 m h2 _ (capB_ok hcap),by simp [freshB]⟩
        · cases h
      · cases h
    · cases h
  · cases h
end Go.Proofs.YtmhkkalbijbplaaGreatDoor

/- The reference's encoding of an integer. -/
namespace Go.Proofs.YtmhkkalbijbplaaGreatDoor
open Go Go.Sx
set_option maxRecDepth 100000
set_option linter.unusedVariables false
variable {tS:List (Nat × List SV)}
theorem wrap64_le {x:Int} (h:0≤x):IntKind.i64.wrap x≤x∧IntKind.i64.wrap x≤9223372036854775807:=by
  simp only [IntKind.wrap,IntKind.bits,IntKind.signed]
  simp
  omega
def nxtR (m:Int):Int:=IntKind.i64.wrap (m.tdiv 256)
theorem nxtR_lt {m:Int} (h:m > 0):(nxtR m).toNat < m.toNat∧nxtR m≤9223372036854775807:=by
  have h1:0≤m.tdiv 256:=Int.tdiv_nonneg (by omega) (by omega)
  have h2:m.tdiv 256 < m:=by rw [Int.tdiv_eq_ediv_of_nonneg (by omega)];omega
  have:=wrap64_le h1
  unfold nxtR
  omega
def digs:Nat→Int→List UInt8
  | 0,_=>[]
  | f+1,m=>if m > 0 then wrapB (m.tmod 256) :: digs f (nxtR m) else []
theorem digs_fuel:∀ (f:Nat) (m:Int),m.toNat≤f→digs f m=digs m.toNat m
  | 0,m,h=>by
    have:m.toNat=0:=by omega
    rw [this]
  | f+1,m,h=>by
    by_cases hm:m > 0
    · have h1:=nxtR_lt hm
      obtain ⟨j,hj⟩:∃ j,m.toNat=j+1:=⟨m.toNat - 1,by omega⟩
      rw [hj]
      simp only [digs,hm,if_true]
      rw [digs_fuel f (nxtR m) (by omega),digs_fuel j (nxtR m) (by omega)]
    · have:m.toNat=0:=by omega
      rw [this]
      simp only [digs,hm,if_false]
termination_by f=>f
def dig (m:Int):List UInt8:=digs m.toNat m
theorem dig_pos {m:Int} (h:m > 0):dig m=wrapB (m.tmod 256) :: dig (nxtR m):=by
  unfold dig
  obtain ⟨j,hj⟩:∃ j,m.toNat=j+1:=⟨m.toNat - 1,by omega⟩
  rw [hj]
  simp only [digs,h,if_true]
  rw [digs_fuel j _ (by have:=nxtR_lt h;omega)]
theorem dig_neg {m:Int} (h:¬ m > 0):dig m=[]:=by
  unfold dig
  have:m.toNat=0:=by omega
  rw [this];rfl
theorem dig_len:∀ (j:Nat) (m:Int),m < 256 ^ j→(dig m).length≤j
  | 0,m,h=>by rw [dig_neg (by simp at h;omega)];simp
  | j+1,m,h=>by
    by_cases hm:m > 0
    · rw [dig_pos hm]
      have h1:0≤m.tdiv 256:=Int.tdiv_nonneg (by omega) (by omega)
      have h2:m.tdiv 256 < 256 ^ j:=by
        rw [Int.tdiv_eq_ediv_of_nonneg (by omega)]
        rw [Int.pow_succ] at h
        omega
      have:=(wrap64_le h1).1
      have:=dig_len j (nxtR m) (by unfold nxtR;omega)
      simp only [List.length_cons];omega
    · rw [dig_neg hm];simp
theorem dig_len9 (m:Int):(dig m).length≤9:=by
  by_cases hm:m > 0
  · rw [dig_pos hm]
    have:=dig_len 8 (nxtR m) (by have:=nxtR_lt hm;have:(256:Int) ^ 8=18446744073709551616:=by decide
                                 omega)
    simp only [List.length_cons];omega
  · rw [dig_neg hm];simp

def magR (n:Int):Int:=if n < 0 then IntKind.i64.wrap (-1 - n) else n
def hdR (n:Int):UInt8:=if n ≥ 0 then wrapB (IntKind.i64.wrap (128+((dig (magR n)).length:Int))) else wrapB (IntKind.i64.wrap (127 - ((dig (magR n)).length:Int)))
def turnR (n:Int) (d:UInt8):UInt8:=if n < 0 then wrapB (255 - (d.toNat:Int)) else d
def encR (n:Int):List UInt8:=hdR n :: (dig (magR n)).reverse.map (turnR n)
theorem encR_len (n:Int):(encR n).length≤10:=by
  have:=dig_len9 (magR n)
  simp [encR];omega

set_option maxHeartbeats 4000000 in
theorem f38 (n:Int):Fun Tryz.prog tS 49 [.int .i64 n] [] 0 (.slc 0 0 1 (encR n).length none) [(0,⟨.own 5,bys (encR n)⟩)] 1:=by
  refine fun_anyG none cF cF_ok ck49 (Nat.le_of_ble_eq_true rfl) (Nat.zero_le _) ?_
  conv in mkSF _ _=>(reduce;simp only [u8lit,UInt8.reduceOfNat,Int.reduceOfNat,Int.reduceNegSucc])
  rw [exG_mk]
  have hlen:=encR_len n
  have hd9:=dig_len9 (magR n)
  have key:(IntKind.i64.wrap (-1 - n)=magR n∧n < 0)∨(magR n=n∧¬ n < 0):=by
    unfold magR
    by_cases hn:n < 0
    · left;rw [if_pos hn];exact ⟨rfl,hn⟩
    · right;rw [if_neg hn];exact ⟨rfl,hn⟩
  rcases key with ⟨k1,hn⟩ | ⟨k1,hn⟩
  all_goals
    simp (config:={ maxSteps:=1000000 }) only [hn,reduceCtorEq,Nat.reduceEqDiff,Int.reduceNeg,eq_self,frOf,↓reduceIte,↓binI,Opd.ev,Sx.get,put,putO,del,dels,BB,↓PB]
    rw [den_loop]
    refine den_inv cF_ok (σ:=Int × List UInt8) (fun s=>[(4,nlS 0 1 s.2.length),(3,.int .i64 s.1),(0,.int .i64 n)]) (fun s=>nlM 0 5 (bys s.2) [] s.2.length) (fun s=>nlN 0 s.2.length)
      (fun s=>s.2++dig s.1=dig (magR n)) (fun s=>s.1.toNat) (magR n,[]) ⟨[],by simp [EntM,compat,apartM,keysBelow,idHs,BB],by simp [k1,frEnt,geto,SV.ren,Nat.reduceEqDiff,↓reduceIte,reduceCtorEq,BB]⟩ rfl ?_
    rintro ⟨m,pre⟩ hpre
    simp only at hpre
    have hl:=congrArg List.length hpre
    simp only [List.length_append] at hl
    by_cases hm:m > 0
    · rw [dig_pos hm,← List.singleton_append,← List.append_assoc] at hpre
      have hb:=wrapB_sv (m.tmod 256)
      have hdec:=(nxtR_lt hm).1
      cases pre with
      | nil=>
        simp (config:={ maxSteps:=1000000 }) only [hm,reduceCtorEq,Nat.reduceEqDiff,Nat.reduceAdd,Int.reduceNe,eq_self,↓reduceIte,↓binI,↓fillE,Opd.ev,Sx.get,put,putO,del,dels,rd,splice,SV.cells?,SV.one,BB,↓PB]
        exact ⟨by omega,by omega,(nxtR m,_),⟨[(1,0)],by simp [hb,EntM,compat,apartM,keysBelow,eta,idHs,rd,↓reduceIte,Kind.isOwn,exists_eq_left',ne_eq,implies_true,forall_const,BB],by simp [nxtR,frEnt,geto,eta,SV.ren,Nat.reduceEqDiff,↓reduceIte,reduceCtorEq,BB]⟩,hpre,by simp only;omega⟩
      | cons c pre=>
        have h9:pre.length≤9:=by simp at hl;omega
        simp (config:={ maxSteps:=1000000 }) only [hm,reduceCtorEq,Nat.reduceEqDiff,Nat.reduceAdd,Int.reduceNe,eq_self,↓reduceIte,↓binI,↓fillE,Opd.ev,Sx.get,put,putO,del,dels,rd,rm,splice,SV.cells?,SV.one,BB,↓PB]
        rw [hb,bytes_app1]
        exact ⟨by omega,by omega,(nxtR m,_),⟨[(2,0)],by simp [EntM,compat,apartM,keysBelow,eta,idHs,rd,↓reduceIte,Kind.isOwn,exists_eq_left',ne_eq,implies_true,forall_const,BB],by simp [nxtR,frEnt,geto,eta,SV.ren,Nat.reduceEqDiff,↓reduceIte,reduceCtorEq,BB]⟩,hpre,by simp only;omega⟩
    · rw [dig_neg hm,List.append_nil] at hpre
      subst hpre
      have key2:encR n=hdR n :: (dig (magR n)).reverse.map (turnR n):=rfl
      generalize hds:dig (magR n)=ds at *
      have hh:hdR n=if n ≥ 0 then wrapB (IntKind.i64.wrap (128+(ds.length:Int))) else wrapB (IntKind.i64.wrap (127 - (ds.length:Int))):=by unfold hdR;rw [hds]
      have hb1:=wrapB_sv (IntKind.i64.wrap (128+(ds.length:Int)))
      have hb2:=wrapB_sv (IntKind.i64.wrap (127 - (ds.length:Int)))
      have w0:IntKind.i64.wrap ((ds.length:Int) - 1)=(ds.length:Int) - 1:=wrap64_eq (by omega) (by omega)
      have hn2:(n ≥ 0)=¬ (n < 0):=by simp
      have hhd:SV.int .u8 (IntKind.u8.wrap (IntKind.i64.wrap (if n ≥ 0 then 128+(ds.length:Int) else 127 - (ds.length:Int))))=SV.byte (hdR n):=by
        rw [hh]
        by_cases hc:n ≥ 0
        · rw [if_pos hc,if_pos hc];exact hb1
        · rw [if_neg hc,if_neg hc];exact hb2
      simp only [hn2,hn,not_true_eq_false,not_false_eq_true,if_true,if_false] at hhd
      cases ds with
      | nil=>
        simp (config:={ maxSteps:=1000000 }) only [hm,hn,hn2,reduceCtorEq,Nat.reduceEqDiff,Nat.reduceAdd,Int.reduceLE,Int.reduceAdd,Int.reduceSub,Int.reduceNeg,eq_self,↓reduceIte,↓binI,↓fillE,Opd.ev,Sx.get,put,putO,del,dels,rd,splice,SV.cells?,SV.one,BB,↓PB]
        simp only [List.length_nil,Int.natCast_zero,Int.add_zero,Int.sub_zero,wrap64_eq,Int.reduceNeg,Int.reduceLE] at hhd
        rw [den_loop]
        refine ⟨by omega,by omega,den_unroll cF_ok (callT_point _ _) 2 ?_⟩
        simp (config:={ maxSteps:=1000000 }) only [Int.reduceGE,reduceCtorEq,Nat.reduceEqDiff,Int.reduceNeg,eq_self,↓reduceIte,↓binI,↓evRes,Opd.ev,Sx.get,put,putO,del,dels,retOf,eta,SV.ren,BB,↓PB]
        exact ⟨[(1,0)],by simp [hhd,key2,EntM,compat,apartM,keysBelow,eta,idHs,rd,↓reduceIte,Kind.isOwn,exists_eq_left',ne_eq,implies_true,forall_const,BB],by simp [key2,BB]⟩
      | cons d ds=>
        simp only [List.length_cons] at hhd w0 hd9
        simp (config:={ maxSteps:=1000000 }) only [hm,hn,hn2,w0,reduceCtorEq,Nat.reduceEqDiff,Nat.reduceAdd,eq_self,↓reduceIte,↓binI,↓fillE,Opd.ev,Sx.get,put,putO,del,dels,rd,splice,SV.cells?,SV.one,BB,↓PB]
        refine ⟨by omega,by omega,?_⟩
        rw [den_loop]
        refine den_inv cF_ok (σ:=Nat × List UInt8) (fun s=>[(7,.int .i64 ((s.1:Int) - 1)),(6,.slc 1 0 1 s.2.length none),(4,.slc 0 0 1 (ds.length+1) none),(0,.int .i64 n)])
          (fun s=>[(1,⟨.own 5,bys s.2⟩),(0,⟨.own 5,bys (d :: ds)⟩)]) (fun _=>2) (fun s=>s.1≤ds.length+1∧s.2++((d :: ds).take s.1).reverse.map (turnR n)=encR n) (fun s=>s.1) (ds.length+1,[hdR n]) ?_ ⟨Nat.le_refl _,?_⟩ ?_
        · exact ⟨[(0,0),(2,0)],by simp only [hhd,EntM,compat,apartM,keysBelow,eta,idHs,rd,Nat.reduceAdd,Nat.reduceSub,Nat.reduceLT,Nat.reduceLeDiff,↓reduceIte,Kind.isOwn,exists_eq_left',ne_eq,implies_true,false_imp_iff,forall_const,reduceCtorEq,forall_eq,BB],by simp only [frEnt,geto,eta,SV.ren,Nat.reduceAdd,Nat.reduceSub,Nat.reduceEqDiff,↓reduceIte,reduceCtorEq,BB]⟩
        · rw [key2,List.take_of_length_le (by simp)];rfl
        · rintro ⟨i,pre⟩ ⟨hi,hpre⟩
          simp only at hi hpre
          by_cases hi0:i=0
          · subst hi0
            simp only [BB] at hpre
            subst hpre
            simp (config:={ maxSteps:=1000000 }) only [Int.reduceGE,reduceCtorEq,Nat.reduceEqDiff,Int.reduceSub,Int.reduceNeg,eq_self,↓reduceIte,↓binI,↓evRes,Opd.ev,Sx.get,put,putO,del,dels,retOf,eta,SV.ren,BB,↓PB]
            exact ⟨[(1,0)],by simp [EntM,compat,apartM,keysBelow,eta,idHs,rd,↓reduceIte,Kind.isOwn,exists_eq_left',ne_eq,implies_true,forall_const,BB],by simp [BB]⟩
          · have q0:(i:Int) - 1 ≥ 0:=by omega
            have v2:IntKind.i64.wrap ((i:Int) - 1 - 1)=(i:Int) - 1 - 1:=wrap64_eq (by omega) (by omega)
            have q1:((i:Int) - 1 < ((ds.length+1:Nat):Int)):=by omega
            have q2:((i:Int) - 1).toNat=i - 1:=by omega
            obtain ⟨x,hx⟩:∃ x,(d :: ds)[i - 1]?=some x:=⟨_,List.getElem?_eq_getElem (by simp;omega)⟩
            have gx:=get_bysI hx
            have hc:turnR n x=(if n < 0 then wrapB (255 - (x.toNat:Int)) else x):=rfl
            have q3:i - 1 < ds.length+1:=by omega
            have hb3:=wrapB_sv (255 - (x.toNat:Int))
            simp (config:={ maxSteps:=1000000 }) only [hn,q0,q1,q2,q3,v2,gx,reduceCtorEq,Nat.reduceEqDiff,Nat.reduceAdd,eq_self,↓reduceIte,↓binI,↓fillE,Opd.ev,Sx.get,put,putO,del,dels,rd,rm,splice,SV.cells?,SV.one,BB,↓PB]
            rw [take_succ_rev hi0 hx,List.map_cons,← List.singleton_append,← List.append_assoc,hc] at hpre
            simp only [hn,if_true,if_false] at hpre
            have h10:pre.length≤10:=by have:=congrArg List.length hpre;simp at this;omega
            have hci:((i - 1:Nat):Int)=(i:Int) - 1:=by omega
            first
              | rw [hb3,bytes_app1]
              | rw [byte_I,bytes_app1]
            exact ⟨by omega,by omega,(i - 1,_),⟨[(0,0),(3,0)],by simp [EntM,compat,apartM,keysBelow,eta,idHs,rd,Nat.reduceAdd,Nat.reduceLeDiff,↓reduceIte,Kind.isOwn,exists_eq_left',ne_eq,implies_true,forall_const,reduceCtorEq,forall_eq,BB],by simp [hci,frEnt,geto,eta,SV.ren,Nat.reduceAdd,Nat.reduceEqDiff,Nat.reduceLeDiff,↓reduceIte,reduceCtorEq,BB]⟩,⟨by simp only;omega,hpre⟩,by simp only;omega⟩
def gIntR:GS
  | [.int .i64 n],[]=>some (.slc 0 0 1 (encR n).length none,[(0,⟨.own 5,bys (encR n)⟩)],1)
  | _,_=>none
theorem gIntR_ok:FunS Tryz.prog tS 49 gIntR:=by
  intro a0 m0 r m1 n1 h
  unfold gIntR at h
  split at h
  · cases h;exact ⟨f38 _,by simp [freshB]⟩
  · cases h
end Go.Proofs.YtmhkkalbijbplaaGreatDoor

/- The reference's encodings of lists of integers and of texts; the joining of slices. -/
namespace Go.Proofs.YtmhkkalbijbplaaGreatDoor
open Go Go.Sx
set_option maxRecDepth 100000
set_option linter.unusedVariables false
variable {tS:List (Nat × List SV)}
def tabB:List (FuncId × GS):=[(49,gIntR)]
theorem tabB_ok:∀ x ∈ tabB,FunS Tryz.prog tS x.1 x.2:=by
  intro x hx
  simp only [tabB,List.mem_cons,List.not_mem_nil,or_false] at hx
  rcases hx with rfl
  exact gIntR_ok
def encLR:List Int→List UInt8
  | []=>[]
  | x :: l=>encR x++encLR l
theorem encLR_len:∀ l,(encLR l).length≤10 * l.length
  | []=>Nat.le_refl _
  | x :: l=>by
    have:=encLR_len l
    have:=encR_len x
    simp only [encLR,List.length_append,List.length_cons];omega
def encIsR (l:List Int):List UInt8:=encR l.length++encLR l

theorem f35 (l:List Int) (hl:l.length≤1000) (cap:Option Nat) :
    Fun Tryz.prog tS 52 [.slc 0 0 1 l.length cap] [(0,⟨.view,ints l⟩)] 1 (.slc 1 0 1 (encIsR l).length none) [(1,⟨.own 5,bys (encIsR l)⟩)] 2:=by
  refine fun_anyG none (callS tabB cF) (callS_ok tabB_ok cF_ok) ck52 (Nat.le_of_ble_eq_true rfl) (by decide) ?_
  conv in mkSF _ _=>(reduce;simp only [u8lit,UInt8.reduceOfNat,Int.reduceOfNat,Int.reduceNegSucc])
  rw [exG_mk]
  have hL:=encLR_len l
  have hI:=encR_len l.length
  have hT:(encIsR l).length≤10 * (l.length+1):=by unfold encIsR;simp;omega
  simp (config:={ maxSteps:=1000000 }) only [tabB,gIntR,lookF,reduceCtorEq,Nat.reduceEqDiff,Nat.reduceAdd,eq_self, true_and,List.length_nil,List.append_nil,List.nil_append,List.cons_append,List.map_cons,List.map_nil,Nat.add_zero,frOf,den_o0,den_o1,kont_app,den_reg,den_seq,den_block,↓reduceIte,↓e_mv,↓e_call,↓e_len,Opd.ev,Sx.get,put,putO,del,dels,↓u_callS,canLW,canV,belowL,apH,eta,SV.ren,newOwn,targets,rms,Kind.isOwn,ren_bytes,List.getElem?_nil,Option.getD_none,Nat.sub_zero]
  rw [den_loop]
  refine den_inv (callS_ok tabB_ok cF_ok) (σ:=Nat × List UInt8) (fun s=>[(4,.int .i64 (s.1:Int)),(0,.slc 0 0 1 l.length cap),(3,.slc 1 0 1 s.2.length none)])
    (fun s=>[(1,⟨.own 5,bys s.2⟩),(0,⟨.view,ints l⟩)]) (fun _=>2) (fun s=>s.1≤l.length∧s.2++encLR (l.drop s.1)=encIsR l) (fun s=>l.length - s.1) (0,encR l.length) ?_ ⟨Nat.zero_le _,rfl⟩ ?_
  · exact ⟨[(0,0),(1,0)],by simp [EntM,compat,apartM,keysBelow,eta,idHs,rd,Option.getD_some,List.length_cons,List.length_nil,Nat.zero_add,Nat.add_zero,Nat.reduceAdd,Nat.reduceLeDiff,↓reduceIte,Kind.isOwn,List.take_succ_cons,List.take_zero,List.nil_append,and_self,true_and,exists_eq_left',Option.some.injEq,List.drop_zero,ne_eq,not_false_eq_true,implies_true,List.not_mem_nil,Bool.false_or,Bool.true_or,forall_const,List.mem_cons,or_false,forall_eq,Nat.succ_ne_self,ren_bytes,take_ints,ren_ints,len_ints],by simp [frEnt,geto,eta,SV.ren,Option.getD_some,List.length_cons,List.length_nil,Nat.zero_add,Nat.add_zero,Nat.reduceAdd,Nat.reduceLeDiff,↓reduceIte,and_self,reduceCtorEq,Nat.succ_ne_self]⟩
  · rintro ⟨i,pre⟩ ⟨hi,hpre⟩
    simp only at hi hpre
    have hlen:=congrArg List.length hpre
    simp only [List.length_append] at hlen
    by_cases h:i < l.length
    · have c1:(i:Int) < (l.length:Int):=by omega
      have c2:(0:Int)≤(i:Int):=by omega
      have wi:IntKind.i64.wrap ((i:Int)+1)=((i+1:Nat):Int):=by rw [wrap64_eq (by omega) (by omega)];omega
      obtain ⟨x,hx⟩:∃ x,l[i]?=some x:=⟨_,List.getElem?_eq_getElem h⟩
      have hd:l.drop i=x :: l.drop (i+1):=by
        rw [List.drop_eq_getElem_cons h]
        rw [List.getElem?_eq_getElem h] at hx;cases hx;rfl
      rw [hd] at hpre
      simp only [encLR,← List.append_assoc] at hpre
      have hlen2:=congrArg List.length hpre
      simp only [List.length_append] at hlen2
      have gx:=get_ints hx
      simp (config:={ maxSteps:=1000000 }) only [gIntR,h,c1,c2,wi,gx,lookF,again_n,reduceCtorEq,Nat.reduceEqDiff,Nat.reduceAdd,eq_self,decide_true, true_and,List.length_nil,List.append_nil,List.nil_append,List.cons_append,List.drop_zero,List.map_cons,List.map_nil,Nat.zero_add,Nat.add_zero,den_nil,den_o0,↓gd_tt,den_o1,kont_app,den_skip,den_reg,den_seq,den_cond,den_block,den_b,↓reduceIte,↓e_load,↓e_idxS,↓e_app,↓e_mv,↓e_bin,↓e_call,↓e_len,↓u_binV,↓u_srcOf,↓u_srcSl,↓binI,Opd.ev,Sx.get,put,putO,del,dels,rd,rm,↓u_callS,canLW,canV,belowL,apH,eta,SV.ren,newOwn,targets,rms,Kind.isOwn,ren_bytes,len_ints,List.getElem?_nil,Option.getD_none,Nat.sub_zero,Nat.le_refl,take_bytes,len_bytes,Int.toNat_natCast,Nat.mul_one]
      rw [bytes_app]
      exact ⟨by omega,by omega,(i+1,_),⟨[(0,0),(3,0)],by simp [EntM,compat,apartM,keysBelow,eta,idHs,rd,Option.getD_some,List.length_cons,List.length_nil,Nat.zero_add,Nat.add_zero,Nat.reduceAdd,Nat.reduceLeDiff,↓reduceIte,Kind.isOwn,List.take_succ_cons,List.take_zero,List.nil_append,and_self,true_and,exists_eq_left',Option.some.injEq,List.drop_zero,ne_eq,not_false_eq_true,implies_true,List.not_mem_nil,Bool.false_or,Bool.true_or,forall_const,reduceCtorEq,List.mem_cons,or_false,forall_eq,ren_bytes,take_ints,ren_ints,len_ints],by simp [frEnt,geto,eta,SV.ren,Option.getD_some,List.length_cons,List.length_nil,Nat.zero_add,Nat.add_zero,Nat.reduceAdd,Nat.reduceLeDiff,↓reduceIte,and_self,reduceCtorEq,Nat.succ_ne_self]⟩,⟨by simp only;omega,hpre⟩,by simp only;omega⟩
    · obtain rfl:i=l.length:=by omega
      simp only [List.drop_length,encLR,List.append_nil] at hpre
      subst hpre
      have c1:¬ (l.length:Int) < (l.length:Int):=by omega
      simp (config:={ maxSteps:=1000000 }) only [c1,again_x,reduceCtorEq,Nat.reduceEqDiff,eq_self,decide_false, true_and,Nat.add_zero,den_nil,den_o0,↓gd_ft,den_o1,kont_app,den_reg,den_seq,den_cond,den_exit,den_ret,den_xb,den_xc,finE_r,↓reduceIte,↓e_mv,↓e_bin,↓e_len,↓u_binV,↓binI,↓evRes,Opd.ev,Sx.get,put,putO,del,dels,retOf,eta,SV.ren]
      exact ⟨[(0,0),(1,0)],by simp [EntM,compat,apartM,keysBelow,eta,idHs,rd,Option.getD_some,List.length_cons,List.length_nil,Nat.zero_add,Nat.add_zero,Nat.reduceAdd,Nat.reduceLeDiff,↓reduceIte,Kind.isOwn,List.take_succ_cons,List.take_zero,List.nil_append,and_self,true_and,exists_eq_left',Option.some.injEq,ne_eq,implies_true,List.not_mem_nil,Bool.true_or,forall_const,ren_bytes],by simp [Option.getD_some,List.length_cons,List.length_nil,Nat.zero_add,Nat.add_zero,Nat.reduceAdd,Nat.reduceLeDiff]⟩
def encSR (s:List UInt8):List UInt8:=encR s.length++s
theorem f36 (s:List UInt8) (hs:s.length≤2 ^ 39):Fun Tryz.prog tS 50 [.str s] [] 0 (.slc 0 0 1 (encSR s).length none) [(0,⟨.own 5,bys (encSR s)⟩)] 1:=by
  refine fun_anyG none (callS tabB cF) (callS_ok tabB_ok cF_ok) ck50 (Nat.le_of_ble_eq_true rfl) (by decide) ?_
  conv in mkSF _ _=>(reduce;simp only [u8lit,UInt8.reduceOfNat,Int.reduceOfNat,Int.reduceNegSucc])
  rw [exG_mk]
  have hI:=encR_len s.length
  simp (config:={ maxSteps:=1000000 }) only [tabB,gIntR,lookF,reduceCtorEq,Nat.reduceEqDiff,Nat.reduceAdd,eq_self, true_and,List.length_nil,List.append_nil,List.drop_zero,List.map_cons,List.map_nil,Nat.zero_add,Nat.add_zero,frOf,den_nil,den_o0,den_o1,kont_app,den_reg,den_seq,den_ret,finE_r,↓reduceIte,↓e_app,↓e_mv,↓e_s2b,↓e_call,↓e_len,↓u_srcOf,↓u_srcSl,↓evRes,Opd.ev,Sx.get,put,putO,del,dels,rd,rm,retOf,↓u_callS,canLW,canV,belowL,apH,eta,SV.ren,newOwn,targets,rms,Kind.isOwn,ren_bytes,List.getElem?_nil,Option.getD_none,Nat.sub_zero,Nat.le_refl,take_bytes,map_byte,len_bytes,Nat.mul_one]
  exact ⟨by omega,by omega,[(2,0)],by simp [encSR,bytes_app,EntM,compat,apartM,keysBelow,eta,idHs,rd,Option.getD_some,List.length_cons,List.length_nil,Nat.zero_add,Nat.add_zero,↓reduceIte,Kind.isOwn,List.take_zero,and_self,true_and,exists_eq_left',Option.some.injEq,ne_eq,implies_true,List.not_mem_nil,Bool.true_or,forall_const,ren_bytes],by simp [encSR,Option.getD_some,List.length_cons,List.length_nil,Nat.zero_add,Nat.add_zero]⟩
def gBytesR:GS
  | [.str s],[]=>if s.length≤2 ^ 39 then some (.slc 0 0 1 (encSR s).length none,[(0,⟨.own 5,bys (encSR s)⟩)],1) else none
  | _,_=>none
theorem gBytesR_ok:FunS Tryz.prog tS 50 gBytesR:=by
  intro a0 m0 r m1 n1 h
  unfold gBytesR at h
  split at h
  · split at h
    · cases h
      exact ⟨f36 _ (by assumption),by simp [freshB]⟩
    · cases h
  · cases h

theorem f37 (d:List UInt8) (hd:d.length=16):Fun Tryz.prog tS 47 [.agg (bys d)] [] 0 (.str d) [] 0:=by
  refine fun_anyG none cF cF_ok ck47 (Nat.le_of_ble_eq_true rfl) (by decide) ?_
  conv in mkSF _ _=>(reduce;simp only [u8lit,UInt8.reduceOfNat,Int.reduceOfNat,Int.reduceNegSucc])
  rw [exG_mk]
  simp (config:={ maxSteps:=1000000 }) only [reduceCtorEq,Nat.reduceEqDiff,eq_self,Nat.zero_add,frOf,den_o0,den_o1,kont_app,den_reg,den_seq,den_block,↓reduceIte,↓e_box,↓e_mv,Opd.ev,Sx.get,put,putO,del,dels,SV.cells?]
  rw [den_loop]
  refine den_inv cF_ok (σ:=Nat) (fun i=>[(4,.int .i64 (i:Int)),(3,nlS 1 1 i),(1,.ptr 0 0)])
    (fun i=>nlM 1 5 (bys (d.take i)) [(0,⟨.own 24,bys d⟩)] i) (fun i=>nlN 1 i) (fun i=>i≤16) (fun i=>16 - i) 0 ?_ (Nat.zero_le _) ?_
  · exact ⟨[(0,0)],by simp [EntM,compat,apartM,keysBelow,eta,idHs,rd,Option.getD_some,List.length_cons,List.length_nil,Nat.zero_add,Nat.add_zero,↓reduceIte,Kind.isOwn,List.take_zero,and_self,true_and,exists_eq_left',Option.some.injEq,ne_eq,implies_true,List.not_mem_nil,Bool.true_or,forall_const,ren_bytes,nlM_0,nlN_0],by simp [frEnt,geto,eta,SV.ren,Option.getD_some,List.length_cons,List.length_nil,Nat.zero_add,Nat.add_zero,Nat.reduceEqDiff,↓reduceIte,and_self,Nat.succ_ne_self,nlS_0]⟩
  · intro i hi
    by_cases h:i < 16
    · have c1:(i:Int) < 16:=by omega
      have c2:(0:Int)≤(i:Int):=by omega
      have wi:IntKind.i64.wrap ((i:Int)+1)=((i+1:Nat):Int):=by rw [wrap64_eq (by omega) (by omega)];omega
      obtain ⟨x,hx⟩:∃ x,d[i]?=some x:=⟨_,List.getElem?_eq_getElem (by omega)⟩
      have gx:=get_bysI hx
      have ht:bys (d.take i)++[SV.byte x]=bys (d.take (i+1)):=by
        rw [bytes_app1,List.take_add_one,hx];rfl
      have hlt:(bys (d.take i)).length=i:=by rw [len_bytes];simp;omega
      cases i with
      | zero=>
        simp (config:={ maxSteps:=1000000 }) only [gx,again_n,Nat.reduceEqDiff,Nat.reduceAdd,Int.reduceToNat,Int.reduceLT,Int.reduceLE,Int.reduceAdd,Int.reduceNeg,wrap64,eq_self,decide_true,Int.cast_ofNat_Int, true_and,List.length_cons,List.length_nil,List.append_nil,List.nil_append,List.take_succ_cons,List.take_zero,List.drop_succ_cons,List.drop_zero,List.take_nil,List.drop_nil,Nat.zero_add,Nat.add_zero,den_nil,den_o0,↓gd_tt,den_o1,kont_app,den_skip,den_reg,den_seq,den_cond,den_block,den_b,↓reduceIte,↓e_bslice,↓e_load,↓e_app,↓e_mv,↓e_idxA,↓e_bin,↓u_onInt,↓u_binV,↓u_srcOf,↓u_srcSl,↓binI,↓fillE,Opd.ev,Sx.get,put,putO,del,dels,rd,splice,SV.cells?,SV.one,Nat.sub_zero,Nat.le_refl,nlS_0,nlM_0,nlN_0,Nat.mul_one,Int.cast_ofNat_Int]
        rw [byte_I]
        have ht:bys (d.take (0+1))=bys [x]:=by rw [← ht];rfl
        exact ⟨by omega,by omega,0+1,⟨[(0,0),(2,0)],by simp only [ht,EntM,compat,apartM,keysBelow,eta,idHs,rd,Option.getD_some,List.getElem?_cons_zero,List.getElem?_cons_succ,List.length_cons,List.length_nil,Nat.zero_add,Nat.add_zero,Nat.reduceAdd,Nat.reduceSub,Nat.reduceLT,Nat.reduceLeDiff,↓reduceIte,Kind.isOwn,List.take_zero,and_self,true_and,exists_eq_left',Option.some.injEq,ne_eq,not_false_eq_true,implies_true,List.not_mem_nil,false_imp_iff,Bool.true_or,forall_const,reduceCtorEq,List.mem_cons,or_false,forall_eq,Nat.succ_ne_self,one_byte,ren_bytes,nlM_1,nlN_1],by simp only [frEnt,geto,eta,SV.ren,Option.getD_some,List.getElem?_cons_zero,List.getElem?_cons_succ,List.length_cons,List.length_nil,Nat.zero_add,Nat.add_zero,Nat.reduceAdd,Nat.reduceSub,Nat.reduceEqDiff,↓reduceIte,and_self,and_true,Option.some.injEq,Nat.succ_ne_self,nlS_1];trivial⟩,by omega,by omega⟩
      | succ i=>
        simp (config:={ maxSteps:=1000000 }) only [c1,c2,wi,gx,again_n,reduceCtorEq,Nat.reduceEqDiff,Nat.reduceAdd,eq_self,decide_true,Int.cast_ofNat_Int, true_and,List.length_cons,List.length_nil,List.append_nil,List.nil_append,List.take_succ_cons,List.take_zero,List.drop_succ_cons,List.drop_zero,List.take_nil,List.drop_nil,Nat.zero_add,den_nil,den_o0,↓gd_tt,den_o1,kont_app,den_skip,den_reg,den_seq,den_cond,den_block,den_b,↓reduceIte,↓e_bslice,↓e_load,↓e_app,↓e_mv,↓e_idxA,↓e_bin,↓u_onInt,↓u_binV,↓u_srcOf,↓u_srcSl,↓binI,↓fillE,Opd.ev,Sx.get,put,putO,del,dels,rd,rm,splice,SV.cells?,SV.one,Nat.le_refl,nlS_1,nlM_1,nlN_1,len_bytes,Int.toNat_natCast,Nat.mul_one,Int.cast_ofNat_Int]
        rw [byte_I]
        have e0:List.take (i+1) (bys (List.take (i+1) d))=bys (List.take (i+1) d):=List.take_of_length_le (by omega)
        rw [e0,ht]
        exact ⟨by omega,by omega,by rw [len_bytes] at hlt;omega,i+1+1,⟨[(0,0),(3,0)],by simp only [EntM,compat,apartM,keysBelow,eta,idHs,rd,Option.getD_some,List.getElem?_cons_zero,List.getElem?_cons_succ,List.length_cons,List.length_nil,Nat.zero_add,Nat.add_zero,Nat.reduceAdd,Nat.reduceSub,Nat.reduceLT,Nat.reduceLeDiff,↓reduceIte,Kind.isOwn,List.take_zero,and_self,true_and,exists_eq_left',Option.some.injEq,ne_eq,not_false_eq_true,implies_true,List.not_mem_nil,false_imp_iff,Bool.true_or,forall_const,reduceCtorEq,List.mem_cons,or_false,forall_eq,one_byte,ren_bytes,nlM_1,nlN_1],by simp only [frEnt,geto,eta,SV.ren,Option.getD_some,List.getElem?_cons_zero,List.getElem?_cons_succ,List.length_cons,List.length_nil,Nat.zero_add,Nat.add_zero,Nat.reduceAdd,Nat.reduceSub,Nat.reduceEqDiff,↓reduceIte,and_self,Nat.succ_ne_self,nlS_1]⟩,by omega,by omega⟩
    · obtain rfl:i=16:=by omega
      simp (config:={ maxSteps:=1000000 }) only [again_x,Nat.reduceEqDiff,Nat.reduceAdd,Int.reduceLT,eq_self,decide_false,Int.cast_ofNat_Int, true_and,List.drop_zero,Nat.zero_add,den_nil,den_o0,↓gd_ft,den_o1,kont_app,den_reg,den_seq,den_cond,den_exit,den_ret,den_xb,den_xc,finE_r,↓reduceIte,↓e_b2s,↓e_mv,↓e_bin,↓u_binV,↓u_srcSl,↓binI,↓evRes,Opd.ev,Sx.get,put,putO,del,dels,rd,retOf,SV.ren,nlS_1,nlM_1,nlN_1,len_bytes,Nat.mul_one,Int.cast_ofNat_Int]
      have e:List.take 16 d=d:=List.take_of_length_le (by omega)
      have e1:List.take 16 (bys d)=bys d:=List.take_of_length_le (by rw [len_bytes];omega)
      rw [e,e1,map_byteOf]
      exact ⟨by omega,all_isU8 _,[],by simp [EntM,compat,apartM,keysBelow,idHs,List.length_nil,List.take_nil,and_self],rfl⟩
def gText:GS
  | [.agg cells],[]=>match unB cells with
    | some d=>if d.length=16 then some (.str d,[],0) else none
    | none=>none
  | _,_=>none
theorem gText_ok:FunS Tryz.prog tS 47 gText:=by
  intro a0 m0 r m1 n1 h
  unfold gText at h
  split at h
  · split at h
    · rename_i d hd
      split at h
      · cases h
        rw [unB_some hd]
        exact ⟨f37 d (by assumption),by simp [freshB]⟩
      · cases h
    · cases h
  · cases h
end Go.Proofs.YtmhkkalbijbplaaGreatDoor

/- The joining of slices. -/
namespace Go.Proofs.YtmhkkalbijbplaaGreatDoor
open Go Go.Sx
set_option maxRecDepth 100000
set_option linter.unusedVariables false
variable {tS:List (Nat × List SV)}
end Go.Proofs.YtmhkkalbijbplaaGreatDoor

/- The statements of custodians: what they are. -/
namespace Go.Proofs.YtmhkkalbijbplaaGreatDoor
open Go Go.Sx
set_option maxRecDepth 100000
set_option linter.unusedVariables false
variable {tS:List (Nat × List SV)}
end Go.Proofs.YtmhkkalbijbplaaGreatDoor

/- The plain law of the encodings of integers: the program's and the reference's are the same. -/
namespace Go.Proofs.YtmhkkalbijbplaaGreatDoor
open Go Go.Sx
set_option maxRecDepth 100000
set_option linter.unusedSimpArgs false
set_option linter.unusedVariables false
def byN (m j:Nat):Nat:=m / 256 ^ j % 256
def magN (n:Int):Nat:=if n < 0 then (-1 - n).toNat else n.toNat
theorem magN_lt {n:Int} (h:R64 n):magN n < 9223372036854775808:=by
  unfold magN R64 at *
  split <;> omega
theorem magR_eq {n:Int} (h:R64 n):magR n=(magN n:Int):=by
  unfold magR magN R64 at *
  split
  · rw [wrap64_eq (by omega) (by omega)];omega
  · omega
theorem wrapU64 (x:Int):IntKind.u64.wrap x=x % 18446744073709551616:=by
  simp [IntKind.wrap,IntKind.bits,IntKind.signed]
theorem wrapU8' (x:Int):IntKind.u8.wrap x=x % 256:=by
  simp [IntKind.wrap,IntKind.bits,IntKind.signed]
theorem xor_max64 (x:Int):bitop .xor .u64 (if IntKind.u64.signed then -1 else IntKind.u64.max) x=18446744073709551615 - x % 18446744073709551616:=by
  have hm:(if IntKind.u64.signed then (-1:Int) else IntKind.u64.max)=18446744073709551615:=by decide
  rw [hm]
  unfold bitop
  simp only
  have e1:BitVec.ofInt IntKind.u64.bits 18446744073709551615=BitVec.allOnes 64:=show BitVec.ofInt 64 18446744073709551615=BitVec.allOnes 64 by decide
  have e2:(BitVec.allOnes 64 ^^^ BitVec.ofInt 64 x)= ~~~ (BitVec.ofInt 64 x):=by
    rw [BitVec.allOnes_xor]
  rw [e1]
  show IntKind.u64.wrap ((BitVec.allOnes 64 ^^^ BitVec.ofInt 64 x).toNat:Int)=_
  rw [e2,BitVec.toNat_not,wrapU64,BitVec.toNat_ofInt]
  omega
theorem encM_eq {n:Int} (h:R64 n):encM n=(magN n:Int):=by
  unfold encM magN R64 at *
  split
  · rw [xor_max64,wrapU64];omega
  · rw [wrapU64];omega
theorem xor8_0 (x:Int) (h:0≤x∧x < 256):bitop .xor .u8 x 0=x:=by
  unfold bitop
  simp only
  show IntKind.u8.wrap ((BitVec.ofInt 8 x ^^^ BitVec.ofInt 8 0).toNat:Int)=x
  have e:(BitVec.ofInt 8 x ^^^ BitVec.ofInt 8 0)=BitVec.ofInt 8 x:=by
    have:BitVec.ofInt 8 0=0#8:=by decide
    rw [this,BitVec.xor_zero]
  rw [e,wrapU8',BitVec.toNat_ofInt]
  omega
theorem xor8_255 (x:Int) (h:0≤x∧x < 256):bitop .xor .u8 x 255=255 - x:=by
  unfold bitop
  simp only
  show IntKind.u8.wrap ((BitVec.ofInt 8 x ^^^ BitVec.ofInt 8 255).toNat:Int)=_
  have e:(BitVec.ofInt 8 x ^^^ BitVec.ofInt 8 255)= ~~~ BitVec.ofInt 8 x:=by
    have:BitVec.ofInt 8 255=BitVec.allOnes 8:=by decide
    rw [this,BitVec.xor_comm,BitVec.allOnes_xor]
  rw [e,wrapU8',BitVec.toNat_not,BitVec.toNat_ofInt]
  omega
theorem nth8_eq {m j:Nat} (hj:j < 8):nth8 (m:Int) j=((m / 256 ^ j:Nat):Int):=by
  unfold nth8
  have h1:min (8 * j) IntKind.u64.bits=8 * j:=Nat.min_eq_left (by show 8 * j≤64;omega)
  rw [h1]
  have h2:((2:Int) ^ (8 * j))=((256 ^ j:Nat):Int):=by
    rw [Int.pow_mul];simp
  rw [h2]
  exact (Int.ofNat_fdiv _ _).symm
theorem wrap_nth8 {m j:Nat} (hj:j < 8):IntKind.u8.wrap (nth8 (m:Int) j)=(byN m j:Int):=by
  rw [nth8_eq hj,wrapU8'];unfold byN;omega
theorem byN_lt (m j:Nat):byN m j < 256:=Nat.mod_lt _ (by decide)
theorem byN_succ (m j:Nat):byN m (j+1)=byN (m / 256) j:=by
  unfold byN;rw [Nat.pow_succ,Nat.mul_comm,Nat.div_div_eq_div_mul]
theorem nxtR_eq {m:Nat} (h:m < 9223372036854775808):nxtR (m:Int)=((m / 256:Nat):Int):=by
  unfold nxtR
  rw [Int.tdiv_eq_ediv_of_nonneg (by omega),wrap64_eq (by omega) (by omega)];omega
theorem dig_eq:∀ (m:Nat),m < 9223372036854775808→dig (m:Int)=(List.range (dig (m:Int)).length).map fun j=>UInt8.ofNat (byN m j)
  | 0,_=>by rw [dig_neg (by omega)];rfl
  | m+1,h=>by
    have hp:((m+1:Nat):Int) > 0:=by omega
    have ih:=dig_eq ((m+1) / 256) (by omega)
    rw [dig_pos hp,nxtR_eq h]
    simp only [List.length_cons,List.range_succ_eq_map,List.map_cons,List.map_map]
    congr 1
    · unfold wrapB byN
      rw [wrapU8',Int.tmod_eq_emod_of_nonneg (by omega)]
      congr 1
      simp only [Nat.pow_zero,Nat.div_one]
      omega
    · conv=>lhs;rw [ih]
      apply List.map_congr_left
      intro j _
      simp only [Function.comp,byN_succ]
termination_by m=>m
decreasing_by omega
theorem dig_len_le:∀ (k m:Nat),m < 9223372036854775808→m < 256 ^ k→(dig (m:Int)).length≤k:=fun k m h h'=>dig_len k _ (by exact_mod_cast h')
theorem dig_len_gt:∀ (k m:Nat),m < 9223372036854775808→256 ^ k≤m→k < (dig (m:Int)).length
  | 0,m,h,h'=>by
    rw [dig_pos (by simp at h';omega)];simp
  | k+1,m,h,h'=>by
    have hk:0 < 256 ^ (k+1):=Nat.pow_pos (by decide)
    rw [dig_pos (by omega),nxtR_eq h]
    have:=dig_len_gt k (m / 256) (by omega) (by rw [Nat.le_div_iff_mul_le (by decide)];rw [Nat.pow_succ] at h';exact h')
    simp only [List.length_cons];omega
theorem topK_eq {m:Nat} (h:m < 9223372036854775808):∀ k,k≤8→m < 256 ^ k→topK (m:Int) k=(dig (m:Int)).length
  | 0,_,h'=>by
    have:m=0:=by simpa using h'
    subst this
    rw [dig_neg (by omega)];rfl
  | k+1,hk,h'=>by
    unfold topK
    rw [nth8_eq (by omega)]
    have hpos:0 < 256 ^ k:=Nat.pow_pos (by decide)
    by_cases hc:256 ^ k≤m
    · have h1:0 < m / 256 ^ k:=Nat.div_pos hc hpos
      rw [if_pos (by exact_mod_cast h1)]
      have:=dig_len_le (k+1) m h h'
      have:=dig_len_gt k m h hc
      omega
    · have h1:m / 256 ^ k=0:=Nat.div_eq_of_lt (by omega)
      rw [h1,if_neg (by decide)]
      exact topK_eq h k (by omega) (by omega)
theorem encTail_eq (m f:Int):∀ i,encTail m f i=(List.range i).reverse.map fun j=>flipB (IntKind.u8.wrap (nth8 m j)) f
  | 0=>rfl
  | i+1=>by
    rw [List.range_succ,List.reverse_append]
    simp only [encTail,BB]
    rw [encTail_eq m f i]
theorem enc_same {n:Int} (h:R64 n):encI n=encR n:=by
  have hm:=magN_lt h
  have h8:magN n < 256 ^ 8:=Nat.lt_trans hm (by decide)
  unfold encI encR hdR
  rw [encM_eq h,magR_eq h,topK_eq hm 8 (Nat.le_refl _) h8]
  have hl:(dig (magN n:Int)).length≤8:=dig_len_le 8 _ hm h8
  generalize hK:(dig (magN n:Int)).length=K at *
  have hd:=dig_eq _ hm
  rw [hK] at hd
  congr 1
  · unfold encHd encF flipB wrapB
    by_cases hn:n < 0
    · rw [if_pos hn,if_neg (by omega),xor8_255 _ (wrapU8_rng _),wrapU8',wrapU8',wrap64_eq (by omega) (by omega)]
      congr 1;omega
    · rw [if_neg hn,if_pos (by omega),xor8_0 _ (wrapU8_rng _),wrapU8',wrapU8',wrap64_eq (by omega) (by omega)]
  · rw [encTail_eq,hd,← List.map_reverse,List.map_map]
    apply List.map_congr_left
    intro j hj
    have hj8:j < 8:=by simp at hj;omega
    simp only [Function.comp]
    rw [wrap_nth8 hj8]
    have hb:=byN_lt (magN n) j
    unfold encF turnR flipB wrapB
    by_cases hn:n < 0
    · rw [if_pos hn,if_pos hn,xor8_255 _ (by omega),wrapU8']
      congr 1
      simp only [UInt8.toNat_ofNat']
      omega
    · rw [if_neg hn,if_neg hn,xor8_0 _ (by omega)]
      congr 1
end Go.Proofs.YtmhkkalbijbplaaGreatDoor

/- The plain law of the encodings of integers: nothing is the encoding of two, nor the beginning of another. -/
namespace Go.Proofs.YtmhkkalbijbplaaGreatDoor
open Go Go.Sx
set_option maxRecDepth 100000
set_option linter.unusedSimpArgs false
set_option linter.unusedVariables false
theorem hd_val {n:Int} {K:Nat} (hK:K≤8):encHd (encF n) K=UInt8.ofNat (if n < 0 then 127 - K else 128+K):=by
  unfold encHd encF flipB
  by_cases hn:n < 0
  · rw [if_pos hn,if_pos hn,xor8_255 _ (wrapU8_rng _),wrapU8']
    congr 1;omega
  · rw [if_neg hn,if_neg hn,xor8_0 _ (wrapU8_rng _),wrapU8']
    congr 1;omega
theorem byN_inj:∀ (K m m':Nat),m < 256 ^ K→m' < 256 ^ K→(∀ j,j < K→byN m j=byN m' j)→m=m'
  | 0,m,m',h,h',_=>by simp at h h';omega
  | K+1,m,m',h,h',hb=>by
    have h0:=hb 0 (by omega)
    simp only [byN,Nat.pow_zero,Nat.div_one] at h0
    rw [Nat.pow_succ] at h h'
    have ih:=byN_inj K (m / 256) (m' / 256) (by omega) (by omega) (fun j hj=>by
      have:=hb (j+1) (by omega)
      rwa [byN_succ,byN_succ] at this)
    omega
theorem encI_form' {n:Int} (h:R64 n):∃ K,K≤8∧magN n < 256 ^ K∧(K=0∨256 ^ (K - 1)≤magN n)∧encI n=UInt8.ofNat (if n < 0 then 127 - K else 128+K) :: (List.range K).reverse.map fun j=>UInt8.ofNat (if n < 0 then 255 - byN (magN n) j else byN (magN n) j):=by
  have hm:=magN_lt h
  have h8:magN n < 256 ^ 8:=Nat.lt_trans hm (by decide)
  refine ⟨(dig (magN n:Int)).length,dig_len_le 8 _ hm h8,?_,?_,?_⟩
  · rcases Nat.lt_or_ge (magN n) (256 ^ (dig (magN n:Int)).length) with h1 | h1
    · exact h1
    · have:=dig_len_gt _ _ hm h1;omega
  · rcases Nat.eq_zero_or_pos (dig (magN n:Int)).length with h0 | h0
    · exact .inl h0
    · refine .inr ?_
      rcases Nat.lt_or_ge (magN n) (256 ^ ((dig (magN n:Int)).length - 1)) with h1 | h1
      · have:=dig_len_le _ _ hm h1;omega
      · exact h1
  · unfold encI
    rw [encM_eq h,topK_eq hm 8 (Nat.le_refl _) h8]
    have hl:(dig (magN n:Int)).length≤8:=dig_len_le 8 _ hm h8
    generalize (dig (magN n:Int)).length=K at *
    rw [hd_val hl,encTail_eq]
    congr 1
    apply List.map_congr_left
    intro j hj
    have hj8:j < 8:=by simp at hj;omega
    rw [wrap_nth8 hj8]
    have hb:=byN_lt (magN n) j
    unfold encF flipB
    by_cases hn:n < 0
    · rw [if_pos hn,if_pos hn,xor8_255 _ (by omega)]
      congr 1;omega
    · rw [if_neg hn,if_neg hn,xor8_0 _ (by omega)]
      congr 1
end Go.Proofs.YtmhkkalbijbplaaGreatDoor

/- The reference's digest of parts: the input. -/
namespace Go.Proofs.YtmhkkalbijbplaaGreatDoor
open Go Go.Sx
set_option maxRecDepth 100000
set_option linter.unusedVariables false
variable {tS:List (Nat × List SV)}
theorem encSR_eq {s:List UInt8} (h:s.length≤2 ^ 39):encSR s=encS s:=by
  unfold encSR encS
  rw [enc_same (show R64 (s.length:Int) from ⟨by omega,by omega⟩)]
theorem gBytesR_eq {s:List UInt8} (h:s.length≤2 ^ 39):gBytesR [.str s] []=some (.slc 0 0 1 (encS s).length none,[(0,⟨.own 5,bys (encS s)⟩)],1):=by
  simp [gBytesR,h,encSR_eq h]
theorem tabBR_ok:∀ x ∈ [((50:FuncId),gBytesR)],FunS Tryz.prog tS x.1 x.2:=by
  intro x hx
  simp only [List.mem_cons,List.not_mem_nil,or_false] at hx
  subst hx
  exact gBytesR_ok
def cBR:CallT:=callS [(50,gBytesR)] cF
theorem cBR_ok:∀ f a m n K,cBR f a m n K→callT Tryz.prog tS f a m n K:=callS_ok tabBR_ok cF_ok
set_option maxHeartbeats 4000000 in
theorem f56 (tag:Int) (ps:List (List UInt8)) (h:okT tag ps) (cap:Option Nat) (hcap:CapOk cap ps.length) :
    Fun Tryz.prog tS 117 [.int .i64 tag,.slc 0 0 1 ps.length cap] [(0,⟨.view,strs ps⟩)] 1 (.slc 1 0 1 (ofM tag ps).length none) [(1,⟨.own 5,bys (ofM tag ps)⟩)] 2:=by
  refine fun_anyG none cBR cBR_ok ck117 (Nat.le_of_ble_eq_true rfl) (by decide) ?_
  conv in mkSF _ _=>(reduce;simp only [u8lit,UInt8.reduceOfNat,Int.reduceOfNat,Int.reduceNegSucc])
  rw [exG_mk]
  obtain ⟨hp,hT,hk⟩:=h
  have hlT:(ofM tag ps).length=1+((ps.map encS).flatten).length:=by simp [ofM];omega
  have rS:∀ η,SV.renL η (strs ps)=strs ps:=fun η=>ren_strs η ps
  simp (config:={ maxSteps:=1000000 }) only [cBR,reduceCtorEq,Nat.reduceEqDiff,Nat.reduceAdd,eq_self, true_and,List.length_cons,List.length_nil,List.append_nil,List.nil_append,List.take_zero,List.drop_succ_cons,List.drop_nil,Nat.zero_add,frOf,den_o0,den_o1,kont_app,den_reg,den_seq,den_block,↓reduceIte,↓e_bslice,↓e_mv,↓e_conv,↓fillE,Opd.ev,Sx.get,put,putO,del,dels,splice,SV.cells?,SV.one,Nat.le_refl]
  have e0:[SV.int .u8 (IntKind.u8.wrap tag)]=bys (ofM tag (ps.take 0)):=by rw [wrapB_sv];rfl
  rw [e0,den_loop]
  have f0:(ofM tag (ps.take 0)).length=1:=rfl
  refine den_inv cBR_ok (σ:=Nat) (fun j=>[(6,.int .i64 (j:Int)),(5,.slc 1 0 1 (ofM tag (ps.take j)).length none),(1,.slc 0 0 1 ps.length cap)])
    (fun j=>[(1,⟨.own 5,bys (ofM tag (ps.take j))⟩),(0,⟨.view,strs ps⟩)]) (fun _=>2) (fun j=>j≤ps.length) (fun j=>ps.length - j) 0 ?_ (Nat.zero_le _) ?_
  · exact ⟨[(0,0),(1,0)],by simp only [rS,EntM,compat,apartM,keysBelow,eta,idHs,rd,Option.getD_some,List.getElem?_cons_zero,List.getElem?_cons_succ,List.length_cons,List.length_nil,Nat.zero_add,Nat.add_zero,Nat.reduceAdd,Nat.reduceSub,Nat.reduceLT,Nat.reduceLeDiff,↓reduceIte,Kind.isOwn,List.take_succ_cons,List.take_zero,List.nil_append,and_self,true_and,exists_eq_left',Option.some.injEq,List.drop_zero,List.take_length,Nat.le_refl,ne_eq,not_false_eq_true,implies_true,List.not_mem_nil,false_imp_iff,Bool.false_or,Bool.true_or,forall_const,List.mem_cons,or_false,forall_eq,Nat.succ_ne_self,ren_bytes],by simp only [frEnt,geto,eta,SV.ren,Option.getD_some,List.getElem?_cons_zero,List.getElem?_cons_succ,List.length_cons,List.length_nil,Nat.zero_add,Nat.add_zero,Nat.reduceAdd,Nat.reduceSub,Nat.reduceEqDiff,↓reduceIte,List.take_zero,and_self,and_true,Option.some.injEq,Nat.succ_ne_self] <;> exact ⟨rfl,rfl⟩⟩
  · intro j hj
    have hln:=len_strs ps
    by_cases hj2:j < ps.length
    · obtain ⟨p,hpj⟩:∃ p,ps[j]?=some p:=⟨ps[j],by simp [hj2]⟩
      have hpm:p ∈ ps:=List.mem_of_getElem? hpj
      have gp:=get_strs hpj
      have c1:(j:Int) < (ps.length:Int):=by omega
      have c2:(0:Int)≤(j:Int):=by omega
      have v4:IntKind.i64.wrap ((j:Int)+1)=((j+1:Nat):Int):=by rw [wrap64_eq (by omega) (by omega)];omega
      have gb:=gBytesR_eq (hp p hpm)
      have hst:=ofM_step (tag:=tag) hpj
      have hle:(ofM tag (ps.take (j+1))).length≤(ofM tag ps).length:=by
        have:=flat_le (ps:=ps) (j:=j+1)
        simp only [ofM,List.length_cons]
        omega
      have hle2:(ofM tag (ps.take j)).length+(encS p).length=(ofM tag (ps.take (j+1))).length:=by rw [← hst];simp
      have tb:=take_bytes (encS p)
      have ta:=take_bytes (ofM tag (ps.take j))
      have ap:bys (ofM tag (ps.take j))++bys (encS p)=bys (ofM tag (ps.take (j+1))):=by rw [bytes_app,hst]
      simp (config:={ maxSteps:=1000000 }) only [hln,c1,c2,v4,gp,↓gb,tb,ta,ap,hle2,lookF,again_n,reduceCtorEq,Nat.reduceEqDiff,Nat.reduceAdd,eq_self,decide_true, true_and,List.length_nil,List.append_nil,List.nil_append,List.cons_append,List.drop_zero,List.map_cons,List.map_nil,Nat.zero_add,Nat.add_zero,den_nil,den_o0,↓gd_tt,den_o1,kont_app,den_skip,den_reg,den_seq,den_cond,den_block,den_b,↓reduceIte,↓e_load,↓e_idxS,↓e_app,↓e_mv,↓e_bin,↓e_call,↓e_len,↓u_binV,↓u_srcOf,↓u_srcSl,↓binI,Opd.ev,Sx.get,put,putO,del,dels,rd,rm,↓u_callS,canLW,canV,belowL,apH,eta,SV.ren,newOwn,targets,rms,Kind.isOwn,ren_bytes,List.getElem?_nil,Option.getD_none,Nat.sub_zero,Nat.le_refl,len_bytes,Int.toNat_natCast,Nat.mul_one]
      exact ⟨hj2,by omega,by omega,j+1,⟨[(0,0),(3,0)],by simp only [rS,EntM,compat,apartM,keysBelow,eta,idHs,rd,Option.getD_some,List.getElem?_cons_zero,List.getElem?_cons_succ,List.length_cons,List.length_nil,Nat.zero_add,Nat.add_zero,Nat.reduceAdd,Nat.reduceSub,Nat.reduceLT,Nat.reduceLeDiff,↓reduceIte,Kind.isOwn,List.take_succ_cons,List.take_zero,List.nil_append,and_self,true_and,exists_eq_left',Option.some.injEq,List.drop_zero,List.take_length,Nat.le_refl,ne_eq,not_false_eq_true,implies_true,List.not_mem_nil,false_imp_iff,Bool.false_or,Bool.true_or,forall_const,reduceCtorEq,List.mem_cons,or_false,forall_eq,ren_bytes],by simp [frEnt,geto,eta,SV.ren,Option.getD_some,List.length_cons,List.length_nil,Nat.zero_add,Nat.add_zero,Nat.reduceAdd,Nat.reduceEqDiff,Nat.reduceLeDiff,↓reduceIte,and_self,Nat.succ_ne_self]⟩,by omega,by omega⟩
    · obtain rfl:j=ps.length:=by omega
      have e1:ps.take ps.length=ps:=List.take_length
      rw [e1]
      have c3:decide ((ps.length:Int) < (ps.length:Int))=false:=by simp
      simp (config:={ maxSteps:=1000000 }) only [c3,again_x,Nat.reduceEqDiff,eq_self, true_and,Nat.add_zero,den_nil,den_o0,↓gd_ft,den_o1,kont_app,den_reg,den_seq,den_cond,den_exit,den_ret,den_xb,den_xc,finE_r,↓reduceIte,↓e_mv,↓e_bin,↓e_len,↓u_binV,↓binI,↓evRes,Opd.ev,Sx.get,put,putO,del,dels,retOf,eta,SV.ren]
      exact ⟨[(0,0),(1,0)],by simp [EntM,compat,apartM,keysBelow,eta,idHs,rd,Option.getD_some,List.length_cons,List.length_nil,Nat.zero_add,Nat.add_zero,Nat.reduceAdd,Nat.reduceLeDiff,↓reduceIte,Kind.isOwn,List.take_succ_cons,List.take_zero,List.nil_append,and_self,true_and,exists_eq_left',Option.some.injEq,ne_eq,implies_true,List.not_mem_nil,Bool.true_or,forall_const,ren_bytes],by simp [Option.getD_some,List.length_cons,List.length_nil,Nat.zero_add,Nat.add_zero,Nat.reduceAdd,Nat.reduceLeDiff]⟩
def gIn:GS
  | [.int .i64 tag,.slc 0 0 1 len cap],[(0,⟨.view,cells⟩)]=>match unStr cells with
    | some ps=>match capB cap ps.length with
      | true=>if len=ps.length∧okT tag ps then some (.slc 1 0 1 (ofM tag ps).length none,[(1,⟨.own 5,bys (ofM tag ps)⟩)],2) else none
      | _=>none
    | none=>none
  | _,_=>none
theorem gIn_ok:FunS Tryz.prog tS 117 gIn:=by
  intro a0 m0 r m1 n1 h
  unfold gIn at h
  split at h
  · split at h
    · rename_i ps hps
      split at h
      · rename_i hcap
        split at h
        · rename_i hc
          cases h
          obtain ⟨rfl,h1⟩:=hc
          rw [unStr_some hps]
          exact ⟨f56 _ ps h1 _ (capB_ok hcap),by simp [freshB]⟩
        · cases h
      · cases h
    · cases h
  · cases h
end Go.Proofs.YtmhkkalbijbplaaGreatDoor

/- The reference's digest of parts. -/
namespace Go.Proofs.YtmhkkalbijbplaaGreatDoor
open Go Go.Sx
set_option maxRecDepth 100000
set_option linter.unusedVariables false
def cpC (X:List UInt8) (i:Nat):List SV:=bys (X.take i)++List.replicate (16 - i) (.int .u8 0)
theorem cpC_len {X:List UInt8} {i:Nat} (hX:X.length=32) (h:i≤16):(cpC X i).length=16:=by simp [cpC,len_bytes,hX];omega
theorem cpC_all {X:List UInt8}:cpC X 16=bys (X.take 16):=by simp [cpC]
theorem cpC_put {X:List UInt8} {i:Nat} {x:UInt8} (hX:X[i]?=some x) (h:i < 16):splice (cpC X i) i [SV.int .u8 (x.toNat:Int)]=cpC X (i+1):=by
  unfold cpC
  rw [show (16 - i)=(16 - (i+1))+1 by omega,List.replicate_succ]
  have hi:i < X.length:=by
    rw [List.getElem?_eq_some_iff] at hX
    exact hX.1
  have:=splice_app (a:=bys (X.take i)) (b:=[.int .u8 0]) (c:=List.replicate (16 - (i+1)) (.int .u8 0)) (k:=i) (d:=[SV.byte x]) (by simp [len_bytes];omega) rfl
  simp only [List.cons_append,List.nil_append] at this
  rw [byte_I,this,List.take_add_one,hX,← bytes_app,List.append_assoc]
  rfl
theorem cpC_ren (η:Nat→Nat × Nat) (X:List UInt8) (i:Nat):SV.renL η (cpC X i)=cpC X i:=by
  refine SV.flatL_ren η _ ?_
  unfold cpC
  refine flatL_app (flat_bytes _) ?_
  generalize 16 - i=k
  induction k with
  | zero=>rfl
  | succ k ih=>rw [List.replicate_succ];simp only [SV.flatL,SV.flat,Bool.true_and];exact ih
def tabSh:List (FuncId × GS):=[(146,gSumR)]
theorem tabSh_ok:∀ x ∈ tabSh,FunS Tryz.prog tH2 x.1 x.2:=by
  intro x hx
  simp only [tabSh,List.mem_cons,List.not_mem_nil,or_false] at hx
  subst hx
  exact gSumR_ok
def cSh:CallT:=callS tabSh cF
theorem cSh_ok:∀ f a m n K,cSh f a m n K→callT Tryz.prog tH2 f a m n K:=callS_ok tabSh_ok cF_ok
theorem capB_of {cap:Option Nat} {n:Nat} (h:CapOk cap n):capB cap n=true:=by
  cases cap with
  | none=>rfl
  | some c=>exact Nat.ble_eq_true_of_le (h c rfl)
theorem gSumR_eq {m:List UInt8} {cap:Option Nat} (hm:m.length≤2 ^ 37) (hcap:CapOk cap m.length):gSumR [.slc 0 0 1 m.length cap] [(0,⟨.view,bys m⟩)]=some (.agg (bys (sumS m)),[],1):=by
  unfold gSumR
  simp only [unB_bytes,capB_of hcap,hm,and_self,if_true]
set_option maxHeartbeats 4000000 in
theorem f55 (m:List UInt8) (hm:m.length≤2 ^ 37) (cap:Option Nat) (hcap:CapOk cap m.length) :
    Fun Tryz.prog tH2 116 [.slc 0 0 1 m.length cap] [(0,⟨.view,bys m⟩)] 1 (.agg (bys ((sumS m).take 16))) [] 1:=by
  refine fun_valG none cSh cSh_ok ck116 (Nat.le_of_ble_eq_true rfl) (fun η=>by simp only [SV.ren,ren_bytes]) ?_
  conv in mkSF _ _=>(reduce;simp only [u8lit,UInt8.reduceOfNat,Int.reduceOfNat,Int.reduceNegSucc])
  rw [exG_mk]
  have gs:=gSumR_eq hm hcap
  have tm:=take_bytes m
  have hX:=sumS_len m
  generalize sumS m=X at *
  have hxl:(bys X).length=32:=by rw [len_bytes,hX]
  have rX:∀ η,SV.renL η (bys X)=bys X:=fun η=>ren_bytes η X
  simp (config:={ maxSteps:=1000000 }) only [cSh,tabSh,↓gs,tm,hxl,reduceCtorEq,Nat.reduceEqDiff,Nat.reduceAdd,Nat.reduceSub,Nat.reduceLT,↓reduceIte,upd,BC,↓PC]
  rw [den_loop]
  have rz:∀ η,SV.renL η z16=z16:=fun η=>SV.flatL_ren η z16 rfl
  have rC:∀ η i,SV.renL η (cpC X i)=cpC X i:=fun η i=>cpC_ren η X i
  have sX:∀ z:List SV,z.length=32→splice z 0 (bys X)=bys X:=fun z hz=>splice_all (by rw [hxl,hz])
  rw [sX]
  rotate_left
  · rfl
  refine den_inv cSh_ok (σ:=Nat) (fun i=>[(5,.int .i64 (i:Int)),(4,.ptr 3 0),(3,.ptr 2 0),(2,.ptr 1 0)]) (fun i=>[(3,⟨.own 24,cpC X i⟩),(2,⟨.own 141,bys X⟩),(1,⟨.own 24,z16⟩)]) (fun _=>4)
    (fun i=>i≤16) (fun i=>16 - i) 0 ?_ (Nat.zero_le _) ?_
  · exact ⟨[(0,0),(1,0),(2,0),(3,0)],by simp only [rX,rC,rz,Nat.reduceAdd,Nat.reduceSub,Nat.reduceEqDiff,Nat.reduceLT,Nat.reduceLeDiff,↓reduceIte,BC] <;> exact ⟨rfl,rfl⟩,by simp [Nat.reduceAdd,Nat.reduceEqDiff,Nat.reduceLT,Nat.reduceLeDiff,↓reduceIte,BC]⟩
  · intro i hi
    have lC:=cpC_len hX hi
    by_cases h16:i < 16
    · obtain ⟨x,hx⟩:∃ x,X[i]?=some x:=⟨X[i],by simp⟩
      have gx:=get_bysI hx
      have c1:(i:Int) < 16:=by omega
      have c2:(0:Int)≤(i:Int):=by omega
      have c3:(i:Int) < 32:=by omega
      have v4:IntKind.i64.wrap ((i:Int)+1)=((i+1:Nat):Int):=by rw [wrap64_eq (by omega) (by omega)];omega
      have op:=cpC_put hx h16
      simp (config:={ maxSteps:=1000000 }) only [c1,c2,c3,gx,v4,lC,op,Nat.reduceEqDiff,Nat.reduceLeDiff,↓reduceIte,upd,BC,↓PC]
      exact ⟨by omega,i+1,⟨[(0,0),(1,0),(2,0),(3,0)],by simp only [rX,rC,rz,Nat.reduceAdd,Nat.reduceSub,Nat.reduceEqDiff,Nat.reduceLT,Nat.reduceLeDiff,↓reduceIte,BC],by simp [Nat.reduceAdd,Nat.reduceEqDiff,Nat.reduceLT,Nat.reduceLeDiff,↓reduceIte,BC]⟩,by omega,by omega⟩
    · obtain rfl:i=16:=by omega
      simp (config:={ maxSteps:=1000000 }) only [lC,Nat.reduceEqDiff,Int.reduceLT,↓reduceIte,upd,BC,↓PC]
      have tC:List.take 16 (cpC X 16)=cpC X 16:=List.take_of_length_le (by omega)
      have sC:splice z16 0 (cpC X 16)=cpC X 16:=splice_all (by rw [lC];rfl)
      rw [tC,sC,tC]
      exact ⟨lC,by decide,by omega,cpC_all⟩
def gShort:GS
  | [.slc 0 0 1 len cap],[(0,⟨.view,cells⟩)]=>match unB cells with
    | some m=>match capB cap m.length with
      | true=>if len=m.length∧m.length≤2 ^ 37 then some (.agg (bys ((sumS m).take 16)),[],1) else none
      | _=>none
    | none=>none
  | _,_=>none
theorem gShort_eq {m:List UInt8} {cap:Option Nat} (hm:m.length≤2 ^ 37) (hcap:CapOk cap m.length):gShort [.slc 0 0 1 m.length cap] [(0,⟨.view,bys m⟩)]=some (.agg (bys ((sumS m).take 16)),[],1):=by
  unfold gShort
  simp only [unB_bytes,capB_of hcap,hm,and_self,if_true]
theorem gShort_ok:FunS Tryz.prog tH2 116 gShort:=by
  intro a0 m0 r m1 n1 h
  unfold gShort at h
  split at h
  · split at h
    · rename_i m hm
      split at h
      · rename_i hcap
        split at h
        · rename_i hc
          cases h
          obtain ⟨rfl,h2⟩:=hc
          rw [unB_some hm]
          exact ⟨f55 m h2 _ (capB_ok hcap),by simp [freshB]⟩
        · cases h
      · cases h
    · cases h
  · cases h
theorem gIn_eq {tag:Int} {ps:List (List UInt8)} {cap:Option Nat} (h:okT tag ps) (hcap:CapOk cap ps.length):gIn [.int .i64 tag,.slc 0 0 1 ps.length cap] [(0,⟨.view,strs ps⟩)]=some (.slc 1 0 1 (ofM tag ps).length none,[(1,⟨.own 5,bys (ofM tag ps)⟩)],2):=by
  unfold gIn
  simp only [unStr_strs,capB_of hcap,h,and_self,if_true]
def tabOR:List (FuncId × GS):=[(116,gShort),(117,gIn)]
theorem tabOR_ok:∀ x ∈ tabOR,FunS Tryz.prog tH2 x.1 x.2:=by
  intro x hx
  simp only [tabOR,List.mem_cons,List.not_mem_nil,or_false] at hx
  rcases hx with rfl | rfl
  · exact gShort_ok
  · exact gIn_ok
def cOR:CallT:=callS tabOR cF
theorem cOR_ok:∀ f a m n K,cOR f a m n K→callT Tryz.prog tH2 f a m n K:=callS_ok tabOR_ok cF_ok
theorem f40 (tag:Int) (ps:List (List UInt8)) (h:okT tag ps) (cap:Option Nat) (hcap:CapOk cap ps.length) :
    Fun Tryz.prog tH2 76 [.int .i64 tag,.slc 0 0 1 ps.length cap] [(0,⟨.view,strs ps⟩)] 1 (.agg (bys (ofS tag ps))) [] 1:=by
  refine fun_valG none cOR cOR_ok ck76 (Nat.le_of_ble_eq_true rfl) (fun η=>by simp only [SV.ren,ren_bytes]) ?_
  conv in mkSF _ _=>(reduce;simp only [u8lit,UInt8.reduceOfNat,Int.reduceOfNat,Int.reduceNegSucc])
  rw [exG_mk]
  have g1:=gIn_eq h hcap
  have ts:List.take ps.length (strs ps)=strs ps:=List.take_of_length_le (by rw [len_strs];omega)
  have g2:=gShort_eq (m:=ofM tag ps) (cap:=none) (by have:=h.2.1;omega) (fun c hc=>by cases hc)
  have tm:=take_bytes (ofM tag ps)
  have hln:=len_strs ps
  have hfs:=flat_strs ps
  have e:(sumS (ofM tag ps)).take 16=ofS tag ps:=rfl
  have l16:(ofS tag ps).length=16:=ofS_len tag ps
  rw [e] at g2
  simp (config:={ maxSteps:=1000000 }) only [cOR,tabOR,↓g1,↓g2,ts,tm,hln,hfs,l16,reduceCtorEq,Nat.reduceEqDiff,Nat.reduceAdd,Nat.reduceSub,Nat.reduceLT,↓reduceIte,upd,BC,↓PC]
  have lO:(bys (ofS tag ps)).length=16:=by rw [len_bytes,l16]
  have sO:∀ z:List SV,z.length=16→splice z 0 (bys (ofS tag ps))=bys (ofS tag ps):=fun z hz=>splice_all (by rw [lO,hz])
  rw [sO]
  · exact ⟨by omega,List.take_of_length_le (by omega)⟩
  · rfl
def gOfR:GS
  | [.int .i64 tag,.slc 0 0 1 len cap],[(0,⟨.view,cells⟩)]=>match unStr cells with
    | some ps=>match capB cap ps.length with
      | true=>if len=ps.length∧okT tag ps then some (.agg (bys (ofS tag ps)),[],1) else none
      | _=>none
    | none=>none
  | _,_=>none
theorem gOfR_ok:FunS Tryz.prog tH2 76 gOfR:=by
  intro a0 m0 r m1 n1 h
  unfold gOfR at h
  split at h
  · split at h
    · rename_i ps hps
      split at h
      · rename_i hcap
        split at h
        · rename_i hc
          cases h
          obtain ⟨rfl,h1⟩:=hc
          rw [unStr_some hps]
          exact ⟨f40 _ ps h1 _ (capB_ok hcap),by simp [freshB]⟩
        · cases h
      · cases h
    · cases h
  · cases h
end Go.Proofs.YtmhkkalbijbplaaGreatDoor

/- The reference's authentication code. -/
namespace Go.Proofs.YtmhkkalbijbplaaGreatDoor
open Go Go.Sx
set_option maxRecDepth 100000
set_option linter.unusedVariables false
variable {tS:List (Nat × List SV)}
def padB (a w:Int):UInt8:=wrapB ((BitVec.ofInt 8 a ^^^ BitVec.ofInt 8 w).toNat:Int)
theorem padB_sv (a w:Int):SV.int .u8 (bitop .xor .u8 a w)=SV.byte (padB a w):=wrapB_sv _
def padAt (key:List UInt8) (w:Int) (i:Nat):UInt8:=padB ((key.getD i 0).toNat:Int) w
def padK (key:List UInt8) (w:Int) (n:Nat):List UInt8:=(List.range n).map (padAt key w)
theorem padK_len (key:List UInt8) (w:Int) (n:Nat):(padK key w n).length=n:=by simp [padK]
theorem padK_step (key:List UInt8) (w:Int) (n:Nat):bys (padK key w n)++[SV.byte (padAt key w n)]=bys (padK key w (n+1)):=by
  rw [bytes_app1];congr 1;simp [padK,List.range_succ]
def macS (key text:List UInt8):List UInt8:=sumS (padK key 92 64++sumS (padK key 54 64++text))
theorem macS_len (key text:List UInt8):(macS key text).length=32:=sumS_len _
end Go.Proofs.YtmhkkalbijbplaaGreatDoor

/- Custodians' members as cells. -/
namespace Go.Proofs.YtmhkkalbijbplaaGreatDoor
open Go Go.Sx
set_option maxRecDepth 100000
set_option linter.unusedVariables false
variable {tS:List (Nat × List SV)}
structure Mb where
  name:List UInt8
  pub:List UInt8
  h:Int
  deriving DecidableEq
def Mb.sv (m:Mb):List SV:=.str m.name :: (bys m.pub++[.int .i64 m.h])
def Pub (l:List Mb):Prop:=∀ m ∈ l,m.pub.length=16
theorem Pub.tail {m:Mb} {l:List Mb} (h:Pub (m :: l)):Pub l:=fun x hx=>h x (List.mem_cons_of_mem _ hx)
theorem mb0 (m:Mb):m.sv[0]?=some (.str m.name):=(rfl)
theorem eqPat_bys:∀ (d d':List UInt8) (ps:List Tag) (l l':List SV) (b:Bool),d.length=d'.length→eqPat ps l l'=some b →
    eqPat (List.replicate d.length (.i .u8)++ps) (bys d++l) (bys d'++l')=some (d == d' && b)
  | [],[],ps,l,l',b,_,h=>by simpa [bys] using h
  | x :: d,y :: d',ps,l,l',b,hl,h=>by
    have ih:=eqPat_bys d d' ps l l' b (by simpa using hl) h
    have e1:eqTag (.i .u8) (SV.byte x) (SV.byte y)=some (x == y):=by
      simp only [eqTag,SV.byte,and_self,if_true]
      congr 1
      rw [Bool.eq_iff_iff]
      simp only [beq_iff_eq]
      constructor
      · intro h;exact UInt8.toNat_inj.1 (by omega)
      · rintro rfl;rfl
    simp only [List.length_cons,List.replicate_succ,List.cons_append,bys,List.map_cons,eqPat,e1]
    rw [show List.map SV.byte d=bys d from rfl,show List.map SV.byte d'=bys d' from rfl,ih]
    simp [Bool.and_assoc]
  | [],_ :: _,_,_,_,_,hl,_=>by simp at hl
  | _ :: _,[],_,_,_,_,hl,_=>by simp at hl

end Go.Proofs.YtmhkkalbijbplaaGreatDoor

/- Valid of package custodian. -/
namespace Go.Proofs.YtmhkkalbijbplaaGreatDoor
open Go Go.Sx
set_option maxRecDepth 100000
set_option linter.unusedVariables false
variable {tS:List (Nat × List SV)}
end Go.Proofs.YtmhkkalbijbplaaGreatDoor

/- Index and Kept of members. -/
namespace Go.Proofs.YtmhkkalbijbplaaGreatDoor
open Go Go.Sx
set_option maxRecDepth 100000
set_option linter.unusedVariables false
variable {tS:List (Nat × List SV)}
theorem nlS_z {i s k:Nat} (h:k=0):nlS i s k=.val (.slice none 0 0):=by subst h;rfl
theorem nlM_z {i k:Nat} {e:TypeId} {cells:List SV} {m:Mem} (h:k=0):nlM i e cells m k=m:=by subst h;rfl
theorem nlN_z {i k:Nat} (h:k=0):nlN i k=i:=by subst h;rfl
theorem nlS_p {i s k:Nat} (h:0 < k):nlS i s k=.slc i 0 s k none:=by cases k with | zero=>omega | succ k=>rfl
theorem nlM_p {i k:Nat} {e:TypeId} {cells:List SV} {m:Mem} (h:0 < k):nlM i e cells m k=(i,⟨.own e,cells⟩) :: m:=by cases k with | zero=>omega | succ k=>rfl
theorem nlN_p {i k:Nat} (h:0 < k):nlN i k=i+1:=by cases k with | zero=>omega | succ k=>rfl
end Go.Proofs.YtmhkkalbijbplaaGreatDoor
