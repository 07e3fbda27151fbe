/- What the functions of the program compute: printed by a program off the engine. Conditions: none. -/
import Derived.Test.YtolbmdgloccjgaaEng25
namespace Go.Prg
open Go.Eng
set_option linter.all false

noncomputable def F_l_szInt64S (x : ((List Int) × Int)) : Option Int :=
  (cond (ilt (isub .i64 x.2 (n2i (xlen x.1))) 0)
    (some (-1))
    (some (isub .i64 x.2 (n2i (xlen x.1)))))

noncomputable def F_l_szRegister (x : ((Int × (List Int)) × Int)) : Option Int :=
  (Option.bind (F_l_szInt64S (x.1.2, x.2)) fun r1 =>
    (cond (ilt r1 0)
      (some (-1))
      (some r1)))

noncomputable def F_s_l00In (x : (Int × (Int × Int))) : Option Bool :=
  (cond (ige x.1 x.2.1)
    (some (ile x.1 x.2.2))
    (some false))

noncomputable def F_s_l02Base (x : Int) : Option Bool :=
  (Option.bind (F_s_l00In (x, (2, 16))) fun r1 =>
    (some r1))

noncomputable def F_s_l02Digits (x : (Int × (List Int))) : Option Bool :=
  (iter (σ := (Int × (Int × (List Int)))) (fun s1 =>
    (cond (ilt s1.2.1 (n2i (xlen s1.2.2)))
      (chk (okIx s1.2.1 (xlen s1.2.2))
      (Option.bind (F_s_l00In ((xget s1.2.2 (i2n s1.2.1) 0), (0, (isub .i64 s1.1 1)))) fun r3 =>
        (cond (bnot r3)
          (some (.inr false))
          (some (.inl (s1.1, ((iadd .i64 s1.2.1 1), s1.2.2)))))))
      (Option.map Sum.inr
        (Option.bind (F_s_l00In ((n2i (xlen s1.2.2)), (1, 16))) fun r3 =>
        (some r3)))))
    (x.1, (0, x.2)))

noncomputable def F_s_l00Min (x : (Int × Int)) : Option Int :=
  (cond (ilt x.1 x.2)
    (some x.1)
    (some x.2))

noncomputable def F_s_l02Value (x : (Int × (List Int))) : Option Int :=
  (iter (σ := (Int × (Int × (Int × (List Int))))) (fun s1 =>
    (cond (ige s1.2.2.1 0)
      (chk (okIx s1.2.2.1 (xlen s1.2.2.2))
      (Option.bind (F_s_l00Min (1000000000001, (iadd .i64 (imul .i64 s1.2.1 s1.1) (xget s1.2.2.2 (i2n s1.2.2.1) 0)))) fun r3 =>
        (some (.inl (s1.1, (r3, ((isub .i64 s1.2.2.1 1), s1.2.2.2)))))))
      (some (.inr s1.2.1))))
    (x.1, (0, ((isub .i64 (n2i (xlen x.2)) 1), x.2))))

noncomputable def F_s_l02Ok (x : (Int × (List Int))) : Option Bool :=
  (Option.bind (F_s_l02Base x.1) fun r1 =>
    (cond r1
      (Option.bind (F_s_l02Digits x) fun r3 =>
        (cond r3
          (Option.bind (F_s_l02Value x) fun r5 =>
            (some (ile r5 1000000000000)))
          (some false)))
      (some false)))

noncomputable def F_s_l02Two (x : ((Int × (List Int)) × (Int × (List Int)))) : Option Int :=
  (Option.bind (F_s_l02Ok x.1) fun r1 =>
    (cond (bnot r1)
      (some 1)
      (Option.bind (F_s_l02Ok x.2) fun r3 =>
        (cond (bnot r3)
          (some 1)
          (cond (ine x.1.1 x.2.1)
            (some 6)
            (cond (ine (n2i (xlen x.1.2)) (n2i (xlen x.2.2)))
              (some 6)
              (some 0)))))))

noncomputable def F_s_l02Sub (x : ((Int × (List Int)) × (Int × (List Int)))) : Option ((Int × (List Int)) × Int) :=
  (iter (σ := (Int × (Int × ((List (Int × (List Int))) × ((List (Int × (List Int))) × (Int × ((List Int) × (Int × (List Int))))))))) (fun s1 =>
    (cond (ilt s1.2.1 (n2i (xlen (xget s1.2.2.1 0 (0, ([] : (List Int)))).2)))
      (chk (okIx s1.2.1 (xlen (xget s1.2.2.1 0 (0, ([] : (List Int)))).2))
      (chk (okIx s1.2.1 (xlen (xget s1.2.2.2.1 0 (0, ([] : (List Int)))).2))
      (cond (ilt (isub .i64 (isub .i64 (xget (xget s1.2.2.1 0 (0, ([] : (List Int)))).2 (i2n s1.2.1) 0) (xget (xget s1.2.2.2.1 0 (0, ([] : (List Int)))).2 (i2n s1.2.1) 0)) s1.1) 0)
        (chk (okRoom (xlen s1.2.2.2.2.2.2.2) (xlen ((iadd .i64 (isub .i64 (isub .i64 (xget (xget s1.2.2.1 0 (0, ([] : (List Int)))).2 (i2n s1.2.1) 0) (xget (xget s1.2.2.2.1 0 (0, ([] : (List Int)))).2 (i2n s1.2.1) 0)) s1.1) (xget s1.2.2.1 0 (0, ([] : (List Int)))).1) :: ([] : (List Int)))) 8)
        (some (.inl (1, ((iadd .i64 s1.2.1 1), (s1.2.2.1, (s1.2.2.2.1, (s1.2.2.2.2.1, (s1.2.2.2.2.2.1, (s1.2.2.2.2.2.2.1, (xapp s1.2.2.2.2.2.2.2 ((iadd .i64 (isub .i64 (isub .i64 (xget (xget s1.2.2.1 0 (0, ([] : (List Int)))).2 (i2n s1.2.1) 0) (xget (xget s1.2.2.2.1 0 (0, ([] : (List Int)))).2 (i2n s1.2.1) 0)) s1.1) (xget s1.2.2.1 0 (0, ([] : (List Int)))).1) :: ([] : (List Int))))))))))))))
        (chk (okRoom (xlen s1.2.2.2.2.2.2.2) (xlen ((isub .i64 (isub .i64 (xget (xget s1.2.2.1 0 (0, ([] : (List Int)))).2 (i2n s1.2.1) 0) (xget (xget s1.2.2.2.1 0 (0, ([] : (List Int)))).2 (i2n s1.2.1) 0)) s1.1) :: ([] : (List Int)))) 8)
        (some (.inl (0, ((iadd .i64 s1.2.1 1), (s1.2.2.1, (s1.2.2.2.1, (s1.2.2.2.2.1, (s1.2.2.2.2.2.1, (s1.2.2.2.2.2.2.1, (xapp s1.2.2.2.2.2.2.2 ((isub .i64 (isub .i64 (xget (xget s1.2.2.1 0 (0, ([] : (List Int)))).2 (i2n s1.2.1) 0) (xget (xget s1.2.2.2.1 0 (0, ([] : (List Int)))).2 (i2n s1.2.1) 0)) s1.1) :: ([] : (List Int)))))))))))))))))
      (some (.inr (s1.2.2.2.2.2.2, s1.1)))))
    (0, (0, ((x.1 :: ([] : (List (Int × (List Int))))), ((x.2 :: ([] : (List (Int × (List Int))))), (0, (([] : (List Int)), (x.1.1, ([] : (List Int))))))))))

noncomputable def F_s_SubRegisters (x : ((Int × (List Int)) × (Int × (List Int)))) : Option ((Int × (List Int)) × (Int × Int)) :=
  (Option.bind (F_s_l02Two (x.1, x.2)) fun r1 =>
    (cond (ine r1 0)
      (some ((0, ([] : (List Int))), (0, r1)))
      (Option.bind (F_s_l02Sub (x.1, x.2)) fun r3 =>
        (Option.bind (F_s_l02Ok r3.1) fun r4 =>
          (cond (bnot r4)
            (some ((0, ([] : (List Int))), (0, 5)))
            (some (r3.1, (r3.2, 0))))))))

noncomputable def F_l_toInt64S (x : (List Int)) : Option (List Int) :=
  (chk (ieq (n2i (xlen x)) (n2i (xlen x)))
  (chk (okMake (n2i (xlen x)) 8)
  (iter (σ := (Int × ((List Int) × (List Int)))) (fun s1 =>
    (cond (ilt s1.1 (n2i (xlen s1.2.1)))
      (chk (okIx s1.1 (xlen s1.2.1))
      (chk (okIx s1.1 (xlen s1.2.2))
      (some (.inl ((iadd .i64 s1.1 1), (s1.2.1, (xset s1.2.2 (i2n s1.1) (xget s1.2.1 (i2n s1.1) 0))))))))
      (some (.inr s1.2.2))))
    (0, (x, (xrep (i2n (n2i (xlen x))) 0))))))

noncomputable def F_l_toRegister (x : (Int × (List Int))) : Option (Int × (List Int)) :=
  (Option.bind (F_l_toInt64S x.2) fun r1 =>
    (some (x.1, r1)))

noncomputable def F_i_Register_width (x : (Int × (List Int))) : Option Int :=
  (some (n2i (xlen x.2)))

noncomputable def F_i_between (x : (Int × (Int × Int))) : Option Bool :=
  (cond (ige x.1 x.2.1)
    (some (ile x.1 x.2.2))
    (some false))

noncomputable def F_i_isBase (x : Int) : Option Bool :=
  (Option.bind (F_i_between (x, (2, 16))) fun r1 =>
    (some r1))

noncomputable def F_i_isRegisterWidth (x : Int) : Option Bool :=
  (Option.bind (F_i_between (x, (1, 16))) fun r1 =>
    (some r1))

noncomputable def F_i_Register_value (x : (Int × (List Int))) : Option Int :=
  (iter (σ := (Int × (Int × (Int × (List Int))))) (fun s1 =>
    (cond (ige s1.2.1 0)
      (chk (okIx s1.2.1 (xlen s1.2.2.2))
      (cond (igt (iadd .i64 (imul .i64 s1.1 s1.2.2.1) (xget s1.2.2.2 (i2n s1.2.1) 0)) 1000000000000)
        (some (.inr 1000000000001))
        (some (.inl ((iadd .i64 (imul .i64 s1.1 s1.2.2.1) (xget s1.2.2.2 (i2n s1.2.1) 0)), ((isub .i64 s1.2.1 1), s1.2.2))))))
      (some (.inr s1.1))))
    (0, ((isub .i64 (n2i (xlen x.2)) 1), x)))

noncomputable def F_i_ValidRegister (x : (Int × (List Int))) : Option Bool :=
  (Option.bind (F_i_isBase x.1) fun r1 =>
    (cond (bnot r1)
      (some false)
      (Option.bind (F_i_isRegisterWidth (n2i (xlen x.2))) fun r3 =>
        (cond (bnot r3)
          (some false)
          (iter (σ := (Int × (Int × (Int × (List Int))))) (fun s5 =>
            (cond (ilt s5.2.1 s5.1)
              (chk (okIx s5.2.1 (xlen s5.2.2.2))
              (Option.bind (F_i_between ((xget s5.2.2.2 (i2n s5.2.1) 0), (0, (isub .i64 s5.2.2.1 1)))) fun r7 =>
                (cond (bnot r7)
                  (some (.inr false))
                  (some (.inl (s5.1, ((iadd .i64 s5.2.1 1), s5.2.2)))))))
              (Option.map Sum.inr
                (Option.bind (F_i_Register_value s5.2.2) fun r7 =>
                (some (ile r7 1000000000000))))))
            ((n2i (xlen x.2)), (0, x)))))))

noncomputable def F_i_pairCode (x : ((Int × (List Int)) × (Int × (List Int)))) : Option Int :=
  (Option.bind (F_i_ValidRegister x.1) fun r1 =>
    (cond (bnot r1)
      (some 1)
      (Option.bind (F_i_ValidRegister x.2) fun r3 =>
        (cond (bnot r3)
          (some 1)
          (cond (ine x.1.1 x.2.1)
            (some 6)
            (Option.bind (F_i_Register_width x.1) fun r6 =>
              (Option.bind (F_i_Register_width x.2) fun r7 =>
                (cond (ine r6 r7)
                  (some 6)
                  (some 0)))))))))

noncomputable def F_i_whole (x : ((Int × (List Int)) × Int)) : Option ((Int × (List Int)) × (Int × Int)) :=
  (Option.bind (F_i_ValidRegister x.1) fun r1 =>
    (cond (bnot r1)
      (some ((0, ([] : (List Int))), (0, 5)))
      (some (x.1, (x.2, 0)))))

noncomputable def F_i_SubRegisters (x : ((Int × (List Int)) × (Int × (List Int)))) : Option ((Int × (List Int)) × (Int × Int)) :=
  (Option.bind (F_i_pairCode (x.1, x.2)) fun r1 =>
    (cond (ine r1 0)
      (some ((0, ([] : (List Int))), (0, r1)))
      (iter (σ := (Int × (Int × (Int × (Int × ((List Int) × (Int × ((List Int) × (Int × ((List Int) × (Int × (List Int)))))))))))) (fun s3 =>
        (cond (ilt s3.2.2.1 s3.2.1)
          (chk (okIx s3.2.2.1 (xlen s3.2.2.2.2.1))
          (chk (okIx s3.2.2.1 (xlen s3.2.2.2.2.2.2.1))
          (cond (ilt (isub .i64 (isub .i64 (xget s3.2.2.2.2.1 (i2n s3.2.2.1) 0) (xget s3.2.2.2.2.2.2.1 (i2n s3.2.2.1) 0)) s3.1) 0)
            (chk (okRoom (xlen s3.2.2.2.2.2.2.2.2.2.2) (xlen ((iadd .i64 (isub .i64 (isub .i64 (xget s3.2.2.2.2.1 (i2n s3.2.2.1) 0) (xget s3.2.2.2.2.2.2.1 (i2n s3.2.2.1) 0)) s3.1) s3.2.2.2.1) :: ([] : (List Int)))) 8)
            (some (.inl (1, (s3.2.1, ((iadd .i64 s3.2.2.1 1), (s3.2.2.2.1, (s3.2.2.2.2.1, (s3.2.2.2.2.2.1, (s3.2.2.2.2.2.2.1, (s3.2.2.2.2.2.2.2.1, (s3.2.2.2.2.2.2.2.2.1, (s3.2.2.2.2.2.2.2.2.2.1, (xapp s3.2.2.2.2.2.2.2.2.2.2 ((iadd .i64 (isub .i64 (isub .i64 (xget s3.2.2.2.2.1 (i2n s3.2.2.1) 0) (xget s3.2.2.2.2.2.2.1 (i2n s3.2.2.1) 0)) s3.1) s3.2.2.2.1) :: ([] : (List Int)))))))))))))))))
            (chk (okRoom (xlen s3.2.2.2.2.2.2.2.2.2.2) (xlen ((isub .i64 (isub .i64 (xget s3.2.2.2.2.1 (i2n s3.2.2.1) 0) (xget s3.2.2.2.2.2.2.1 (i2n s3.2.2.1) 0)) s3.1) :: ([] : (List Int)))) 8)
            (some (.inl (0, (s3.2.1, ((iadd .i64 s3.2.2.1 1), (s3.2.2.2.1, (s3.2.2.2.2.1, (s3.2.2.2.2.2.1, (s3.2.2.2.2.2.2.1, (s3.2.2.2.2.2.2.2.1, (s3.2.2.2.2.2.2.2.2.1, (s3.2.2.2.2.2.2.2.2.2.1, (xapp s3.2.2.2.2.2.2.2.2.2.2 ((isub .i64 (isub .i64 (xget s3.2.2.2.2.1 (i2n s3.2.2.1) 0) (xget s3.2.2.2.2.2.2.1 (i2n s3.2.2.1) 0)) s3.1) :: ([] : (List Int))))))))))))))))))))
          (Option.map Sum.inr
            (Option.bind (F_i_whole (s3.2.2.2.2.2.2.2.2.2, s3.1)) fun r5 =>
            (some (r5.1, r5.2))))))
        (0, ((n2i (xlen x.1.2)), (0, (x.1.1, (x.1.2, (x.2.1, (x.2.2, (0, (([] : (List Int)), (x.1.1, ([] : (List Int)))))))))))))))

noncomputable def F_l_eqInt64S (x : ((List Int) × (List Int))) : Option Bool :=
  (cond (ine (n2i (xlen x.1)) (n2i (xlen x.2)))
    (some false)
    (iter (σ := (Int × ((List Int) × (List Int)))) (fun s2 =>
      (cond (ilt s2.1 (n2i (xlen s2.2.1)))
        (chk (okIx s2.1 (xlen s2.2.1))
        (chk (okIx s2.1 (xlen s2.2.2))
        (cond (ine (xget s2.2.1 (i2n s2.1) 0) (xget s2.2.2 (i2n s2.1) 0))
          (some (.inr false))
          (some (.inl ((iadd .i64 s2.1 1), s2.2))))))
        (some (.inr true))))
      (0, x)))

noncomputable def F_l_eqRegister (x : ((Int × (List Int)) × (Int × (List Int)))) : Option Bool :=
  (cond (ine x.1.1 x.2.1)
    (some false)
    (Option.bind (F_l_eqInt64S (x.1.2, x.2.2)) fun r2 =>
      (cond (bnot r2)
        (some false)
        (some true))))

noncomputable def F_l_markInt64S (x : ((List Int) × Int)) : Option (Int × (List Int)) :=
  (iter (σ := (Int × (Int × (List Int)))) (fun s1 =>
    (cond (ilt s1.2.1 (n2i (xlen s1.2.2)))
      (chk (okIx s1.2.1 (xlen s1.2.2))
      (some (.inl ((iadd .i64 s1.1 1), ((iadd .i64 s1.2.1 1), (xset s1.2.2 (i2n s1.2.1) s1.1))))))
      (some (.inr (s1.1, s1.2.2)))))
    (x.2, (0, x.1)))

noncomputable def F_l_markRegister (x : ((Int × (List Int)) × Int)) : Option (Int × (Int × (List Int))) :=
  (Option.bind (F_l_markInt64S (x.1.2, x.2)) fun r1 =>
    (some (r1.1, (x.1.1, r1.2))))

noncomputable def F_l_heldInt64S (x : ((List Int) × Int)) : Option Int :=
  (iter (σ := (Int × (Int × (List Int)))) (fun s1 =>
    (cond (ilt s1.2.1 (n2i (xlen s1.2.2)))
      (chk (okIx s1.2.1 (xlen s1.2.2))
      (cond (ine (xget s1.2.2 (i2n s1.2.1) 0) s1.1)
        (some (.inr (-1)))
        (some (.inl ((iadd .i64 s1.1 1), ((iadd .i64 s1.2.1 1), s1.2.2))))))
      (some (.inr s1.1))))
    (x.2, (0, x.1)))

noncomputable def F_l_heldRegister (x : ((Int × (List Int)) × Int)) : Option Int :=
  (Option.bind (F_l_heldInt64S (x.1.2, x.2)) fun r1 =>
    (cond (ilt r1 0)
      (some (-1))
      (some r1)))

noncomputable def F_l_FnExactSubRegisters (x : ((Int × (List Int)) × (Int × (List Int)))) : Option Bool :=
  (Option.bind (F_l_szRegister (x.1, 1048576)) fun r1 =>
    (cond (ilt r1 0)
      (some true)
      (Option.bind (F_l_szRegister (x.2, r1)) fun r3 =>
        (cond (ilt r3 0)
          (some true)
          (Option.bind (F_l_toRegister x.1) fun r5 =>
            (Option.bind (F_l_toRegister x.2) fun r6 =>
              (Option.bind (F_s_SubRegisters (r5, r6)) fun r7 =>
                (Option.bind (F_l_toRegister x.1) fun r8 =>
                  (Option.bind (F_l_toRegister x.2) fun r9 =>
                    (Option.bind (F_i_SubRegisters (r8, r9)) fun r10 =>
                      (Option.bind (F_l_eqRegister (r10.1, r7.1)) fun r11 =>
                        (cond (bnot r11)
                          (some false)
                          (cond (ine r10.2.1 r7.2.1)
                            (some false)
                            (cond (ine r10.2.2 r7.2.2)
                              (some false)
                              (Option.bind (F_l_toRegister x.1) fun r15 =>
                                (Option.bind (F_l_eqRegister (r8, r15)) fun r16 =>
                                  (cond (bnot r16)
                                    (some false)
                                    (Option.bind (F_l_toRegister x.2) fun r18 =>
                                      (Option.bind (F_l_eqRegister (r9, r18)) fun r19 =>
                                        (cond (bnot r19)
                                          (some false)
                                          (Option.bind (F_l_markRegister (r8, 1)) fun r21 =>
                                            (Option.bind (F_l_markRegister (r9, r21.1)) fun r22 =>
                                              (cond (ilt r22.1 0)
                                                (some false)
                                                (Option.bind (F_l_eqRegister (r10.1, r7.1)) fun r24 =>
                                                  (cond (bnot r24)
                                                    (some false)
                                                    (cond (ine r10.2.1 r7.2.1)
                                                      (some false)
                                                      (cond (ine r10.2.2 r7.2.2)
                                                        (some false)
                                                        (Option.bind (F_l_markRegister (r10.1, 1)) fun r28 =>
                                                          (Option.bind (F_l_heldRegister ((r10.1.1, r28.2.2), 1)) fun r29 =>
                                                            (cond (ilt r29 0)
                                                              (some false)
                                                              (cond (ine r29 r28.1)
                                                                (some false)
                                                                (Option.bind (F_l_toRegister x.1) fun r32 =>
                                                                  (Option.bind (F_l_toRegister x.2) fun r33 =>
                                                                    (Option.bind (F_i_SubRegisters (r32, r33)) fun r34 =>
                                                                      (Option.bind (F_l_eqRegister (r34.1, r7.1)) fun r35 =>
                                                                        (cond (bnot r35)
                                                                          (some false)
                                                                          (cond (ine r34.2.1 r7.2.1)
                                                                            (some false)
                                                                            (cond (ine r34.2.2 r7.2.2)
                                                                              (some false)
                                                                              (Option.bind (F_l_heldRegister ((r10.1.1, r28.2.2), 1)) fun r39 =>
                                                                                (cond (ilt r39 0)
                                                                                  (some false)
                                                                                  (cond (ine r39 r28.1)
                                                                                    (some false)
                                                                                    (some true))))))))))))))))))))))))))))))))))))))))))

noncomputable def F_s_l02Carries (x : ((Int × (List Int)) × (Int × (List Int)))) : Option (List Int) :=
  (iter (σ := (Int × (Int × ((List (Int × (List Int))) × ((List (Int × (List Int))) × (List Int)))))) (fun s1 =>
    (cond (ilt s1.2.1 (n2i (xlen (xget s1.2.2.1 0 (0, ([] : (List Int)))).2)))
      (chk (okIx s1.2.1 (xlen (xget s1.2.2.1 0 (0, ([] : (List Int)))).2))
      (chk (okIx s1.2.1 (xlen (xget s1.2.2.2.1 0 (0, ([] : (List Int)))).2))
      (chk (okDiv (xget s1.2.2.1 0 (0, ([] : (List Int)))).1)
      (chk (okRoom (xlen s1.2.2.2.2) (xlen ((iquo .i64 (iadd .i64 (iadd .i64 (xget (xget s1.2.2.1 0 (0, ([] : (List Int)))).2 (i2n s1.2.1) 0) (xget (xget s1.2.2.2.1 0 (0, ([] : (List Int)))).2 (i2n s1.2.1) 0)) s1.1) (xget s1.2.2.1 0 (0, ([] : (List Int)))).1) :: ([] : (List Int)))) 8)
      (some (.inl ((iquo .i64 (iadd .i64 (iadd .i64 (xget (xget s1.2.2.1 0 (0, ([] : (List Int)))).2 (i2n s1.2.1) 0) (xget (xget s1.2.2.2.1 0 (0, ([] : (List Int)))).2 (i2n s1.2.1) 0)) s1.1) (xget s1.2.2.1 0 (0, ([] : (List Int)))).1), ((iadd .i64 s1.2.1 1), (s1.2.2.1, (s1.2.2.2.1, (xapp s1.2.2.2.2 ((iquo .i64 (iadd .i64 (iadd .i64 (xget (xget s1.2.2.1 0 (0, ([] : (List Int)))).2 (i2n s1.2.1) 0) (xget (xget s1.2.2.2.1 0 (0, ([] : (List Int)))).2 (i2n s1.2.1) 0)) s1.1) (xget s1.2.2.1 0 (0, ([] : (List Int)))).1) :: ([] : (List Int))))))))))))))
      (some (.inr s1.2.2.2.2))))
    (0, (0, ((x.1 :: ([] : (List (Int × (List Int))))), ((x.2 :: ([] : (List (Int × (List Int))))), (0 :: ([] : (List Int))))))))

noncomputable def F_s_l02Add (x : ((Int × (List Int)) × (Int × (List Int)))) : Option ((Int × (List Int)) × Int) :=
  (Option.bind (F_s_l02Carries x) fun r1 =>
    (iter (σ := (Int × ((List (Int × (List Int))) × ((List (Int × (List Int))) × (Int × ((List Int) × ((List Int) × (Int × (List Int))))))))) (fun s2 =>
      (cond (ilt s2.1 (n2i (xlen (xget s2.2.1 0 (0, ([] : (List Int)))).2)))
        (chk (okIx s2.1 (xlen (xget s2.2.1 0 (0, ([] : (List Int)))).2))
        (chk (okIx s2.1 (xlen (xget s2.2.2.1 0 (0, ([] : (List Int)))).2))
        (chk (okIx s2.1 (xlen s2.2.2.2.2.2.1))
        (chk (okDiv (xget s2.2.1 0 (0, ([] : (List Int)))).1)
        (chk (okRoom (xlen s2.2.2.2.2.2.2.2) (xlen ((irem (iadd .i64 (iadd .i64 (xget (xget s2.2.1 0 (0, ([] : (List Int)))).2 (i2n s2.1) 0) (xget (xget s2.2.2.1 0 (0, ([] : (List Int)))).2 (i2n s2.1) 0)) (xget s2.2.2.2.2.2.1 (i2n s2.1) 0)) (xget s2.2.1 0 (0, ([] : (List Int)))).1) :: ([] : (List Int)))) 8)
        (some (.inl ((iadd .i64 s2.1 1), (s2.2.1, (s2.2.2.1, (s2.2.2.2.1, (s2.2.2.2.2.1, (s2.2.2.2.2.2.1, (s2.2.2.2.2.2.2.1, (xapp s2.2.2.2.2.2.2.2 ((irem (iadd .i64 (iadd .i64 (xget (xget s2.2.1 0 (0, ([] : (List Int)))).2 (i2n s2.1) 0) (xget (xget s2.2.2.1 0 (0, ([] : (List Int)))).2 (i2n s2.1) 0)) (xget s2.2.2.2.2.2.1 (i2n s2.1) 0)) (xget s2.2.1 0 (0, ([] : (List Int)))).1) :: ([] : (List Int))))))))))))))))))
        (Option.map Sum.inr
          (chk (okIx (n2i (xlen (xget s2.2.1 0 (0, ([] : (List Int)))).2)) (xlen s2.2.2.2.2.2.1))
        (some (s2.2.2.2.2.2.2, (xget s2.2.2.2.2.2.1 (i2n (n2i (xlen (xget s2.2.1 0 (0, ([] : (List Int)))).2))) 0)))))))
      (0, ((x.1 :: ([] : (List (Int × (List Int))))), ((x.2 :: ([] : (List (Int × (List Int))))), (0, (([] : (List Int)), (r1, (x.1.1, ([] : (List Int)))))))))))

noncomputable def F_s_AddRegisters (x : ((Int × (List Int)) × (Int × (List Int)))) : Option ((Int × (List Int)) × (Int × Int)) :=
  (Option.bind (F_s_l02Two (x.1, x.2)) fun r1 =>
    (cond (ine r1 0)
      (some ((0, ([] : (List Int))), (0, r1)))
      (Option.bind (F_s_l02Add (x.1, x.2)) fun r3 =>
        (Option.bind (F_s_l02Ok r3.1) fun r4 =>
          (cond (bnot r4)
            (some ((0, ([] : (List Int))), (0, 5)))
            (some (r3.1, (r3.2, 0))))))))

noncomputable def F_i_added (x : ((Int × (List Int)) × (Int × (List Int)))) : Option ((Int × (List Int)) × (List Int)) :=
  (iter (σ := (Int × (Int × (Int × ((List Int) × (Int × ((List Int) × (Int × ((List Int) × (Int × ((List Int) × (List Int)))))))))))) (fun s1 =>
    (cond (ilt s1.2.1 s1.1)
      (chk (okIx s1.2.1 (xlen s1.2.2.2.1))
      (chk (okIx s1.2.1 (xlen s1.2.2.2.2.2.1))
      (chk (okIx s1.2.1 (xlen s1.2.2.2.2.2.2.2.2.2.2))
      (chk (okDiv s1.2.2.1)
      (chk (okRoom (xlen s1.2.2.2.2.2.2.2.2.2.1) (xlen ((irem (iadd .i64 (iadd .i64 (xget s1.2.2.2.1 (i2n s1.2.1) 0) (xget s1.2.2.2.2.2.1 (i2n s1.2.1) 0)) (xget s1.2.2.2.2.2.2.2.2.2.2 (i2n s1.2.1) 0)) s1.2.2.1) :: ([] : (List Int)))) 8)
      (chk (okDiv s1.2.2.1)
      (chk (okRoom (xlen s1.2.2.2.2.2.2.2.2.2.2) (xlen ((iquo .i64 (iadd .i64 (iadd .i64 (xget s1.2.2.2.1 (i2n s1.2.1) 0) (xget s1.2.2.2.2.2.1 (i2n s1.2.1) 0)) (xget s1.2.2.2.2.2.2.2.2.2.2 (i2n s1.2.1) 0)) s1.2.2.1) :: ([] : (List Int)))) 8)
      (some (.inl (s1.1, ((iadd .i64 s1.2.1 1), (s1.2.2.1, (s1.2.2.2.1, (s1.2.2.2.2.1, (s1.2.2.2.2.2.1, (s1.2.2.2.2.2.2.1, (s1.2.2.2.2.2.2.2.1, (s1.2.2.2.2.2.2.2.2.1, ((xapp s1.2.2.2.2.2.2.2.2.2.1 ((irem (iadd .i64 (iadd .i64 (xget s1.2.2.2.1 (i2n s1.2.1) 0) (xget s1.2.2.2.2.2.1 (i2n s1.2.1) 0)) (xget s1.2.2.2.2.2.2.2.2.2.2 (i2n s1.2.1) 0)) s1.2.2.1) :: ([] : (List Int)))), (xapp s1.2.2.2.2.2.2.2.2.2.2 ((iquo .i64 (iadd .i64 (iadd .i64 (xget s1.2.2.2.1 (i2n s1.2.1) 0) (xget s1.2.2.2.2.2.1 (i2n s1.2.1) 0)) (xget s1.2.2.2.2.2.2.2.2.2.2 (i2n s1.2.1) 0)) s1.2.2.1) :: ([] : (List Int)))))))))))))))))))))))
      (some (.inr ((s1.2.2.2.2.2.2.2.2.1, s1.2.2.2.2.2.2.2.2.2.1), s1.2.2.2.2.2.2.2.2.2.2)))))
    ((n2i (xlen x.1.2)), (0, (x.1.1, (x.1.2, (x.2.1, (x.2.2, (0, (([] : (List Int)), (x.1.1, (([] : (List Int)), (0 :: ([] : (List Int))))))))))))))

noncomputable def F_i_AddRegisters (x : ((Int × (List Int)) × (Int × (List Int)))) : Option ((Int × (List Int)) × (Int × Int)) :=
  (Option.bind (F_i_pairCode (x.1, x.2)) fun r1 =>
    (cond (ine r1 0)
      (some ((0, ([] : (List Int))), (0, r1)))
      (Option.bind (F_i_added (x.1, x.2)) fun r3 =>
        (Option.bind (F_i_Register_width x.1) fun r4 =>
          (chk (okIx r4 (xlen r3.2))
          (Option.bind (F_i_whole (r3.1, (xget r3.2 (i2n r4) 0))) fun r5 =>
            (some (r5.1, r5.2))))))))

noncomputable def F_l_FnExactAddRegisters (x : ((Int × (List Int)) × (Int × (List Int)))) : Option Bool :=
  (Option.bind (F_l_szRegister (x.1, 1048576)) fun r1 =>
    (cond (ilt r1 0)
      (some true)
      (Option.bind (F_l_szRegister (x.2, r1)) fun r3 =>
        (cond (ilt r3 0)
          (some true)
          (Option.bind (F_l_toRegister x.1) fun r5 =>
            (Option.bind (F_l_toRegister x.2) fun r6 =>
              (Option.bind (F_s_AddRegisters (r5, r6)) fun r7 =>
                (Option.bind (F_l_toRegister x.1) fun r8 =>
                  (Option.bind (F_l_toRegister x.2) fun r9 =>
                    (Option.bind (F_i_AddRegisters (r8, r9)) fun r10 =>
                      (Option.bind (F_l_eqRegister (r10.1, r7.1)) fun r11 =>
                        (cond (bnot r11)
                          (some false)
                          (cond (ine r10.2.1 r7.2.1)
                            (some false)
                            (cond (ine r10.2.2 r7.2.2)
                              (some false)
                              (Option.bind (F_l_toRegister x.1) fun r15 =>
                                (Option.bind (F_l_eqRegister (r8, r15)) fun r16 =>
                                  (cond (bnot r16)
                                    (some false)
                                    (Option.bind (F_l_toRegister x.2) fun r18 =>
                                      (Option.bind (F_l_eqRegister (r9, r18)) fun r19 =>
                                        (cond (bnot r19)
                                          (some false)
                                          (Option.bind (F_l_markRegister (r8, 1)) fun r21 =>
                                            (Option.bind (F_l_markRegister (r9, r21.1)) fun r22 =>
                                              (cond (ilt r22.1 0)
                                                (some false)
                                                (Option.bind (F_l_eqRegister (r10.1, r7.1)) fun r24 =>
                                                  (cond (bnot r24)
                                                    (some false)
                                                    (cond (ine r10.2.1 r7.2.1)
                                                      (some false)
                                                      (cond (ine r10.2.2 r7.2.2)
                                                        (some false)
                                                        (Option.bind (F_l_markRegister (r10.1, 1)) fun r28 =>
                                                          (Option.bind (F_l_heldRegister ((r10.1.1, r28.2.2), 1)) fun r29 =>
                                                            (cond (ilt r29 0)
                                                              (some false)
                                                              (cond (ine r29 r28.1)
                                                                (some false)
                                                                (Option.bind (F_l_toRegister x.1) fun r32 =>
                                                                  (Option.bind (F_l_toRegister x.2) fun r33 =>
                                                                    (Option.bind (F_i_AddRegisters (r32, r33)) fun r34 =>
                                                                      (Option.bind (F_l_eqRegister (r34.1, r7.1)) fun r35 =>
                                                                        (cond (bnot r35)
                                                                          (some false)
                                                                          (cond (ine r34.2.1 r7.2.1)
                                                                            (some false)
                                                                            (cond (ine r34.2.2 r7.2.2)
                                                                              (some false)
                                                                              (Option.bind (F_l_heldRegister ((r10.1.1, r28.2.2), 1)) fun r39 =>
                                                                                (cond (ilt r39 0)
                                                                                  (some false)
                                                                                  (cond (ine r39 r28.1)
                                                                                    (some false)
                                                                                    (some true))))))))))))))))))))))))))))))))))))))))))

noncomputable def F_s_l07Of (x : ((Int × (List Int)) × (Int × (List Int)))) : Option (List (Bool × Bool)) :=
  (iter (σ := (Int × ((List (Int × (List Int))) × ((List (Int × (List Int))) × (List (Bool × Bool)))))) (fun s1 =>
    (cond (ilt s1.1 (n2i (xlen (xget s1.2.1 0 (0, ([] : (List Int)))).2)))
      (chk (okIx s1.1 (xlen (xget s1.2.1 0 (0, ([] : (List Int)))).2))
      (chk (okIx s1.1 (xlen (xget s1.2.2.1 0 (0, ([] : (List Int)))).2))
      (chk (okRoom (xlen s1.2.2.2) (xlen (((ige (iadd .i64 (xget (xget s1.2.1 0 (0, ([] : (List Int)))).2 (i2n s1.1) 0) (xget (xget s1.2.2.1 0 (0, ([] : (List Int)))).2 (i2n s1.1) 0)) (xget s1.2.1 0 (0, ([] : (List Int)))).1), (ieq (iadd .i64 (xget (xget s1.2.1 0 (0, ([] : (List Int)))).2 (i2n s1.1) 0) (xget (xget s1.2.2.1 0 (0, ([] : (List Int)))).2 (i2n s1.1) 0)) (isub .i64 (xget s1.2.1 0 (0, ([] : (List Int)))).1 1))) :: ([] : (List (Bool × Bool))))) 2)
      (some (.inl ((iadd .i64 s1.1 1), (s1.2.1, (s1.2.2.1, (xapp s1.2.2.2 (((ige (iadd .i64 (xget (xget s1.2.1 0 (0, ([] : (List Int)))).2 (i2n s1.1) 0) (xget (xget s1.2.2.1 0 (0, ([] : (List Int)))).2 (i2n s1.1) 0)) (xget s1.2.1 0 (0, ([] : (List Int)))).1), (ieq (iadd .i64 (xget (xget s1.2.1 0 (0, ([] : (List Int)))).2 (i2n s1.1) 0) (xget (xget s1.2.2.1 0 (0, ([] : (List Int)))).2 (i2n s1.1) 0)) (isub .i64 (xget s1.2.1 0 (0, ([] : (List Int)))).1 1))) :: ([] : (List (Bool × Bool)))))))))))))
      (some (.inr s1.2.2.2))))
    (0, ((x.1 :: ([] : (List (Int × (List Int))))), ((x.2 :: ([] : (List (Int × (List Int))))), ([] : (List (Bool × Bool)))))))

noncomputable def F_s_SignalsOf (x : ((Int × (List Int)) × (Int × (List Int)))) : Option ((List (Bool × Bool)) × Int) :=
  (Option.bind (F_s_l02Two (x.1, x.2)) fun r1 =>
    (cond (ine r1 0)
      (some (([] : (List (Bool × Bool))), r1))
      (Option.bind (F_s_l07Of (x.1, x.2)) fun r3 =>
        (some (r3, 0)))))

noncomputable def F_i_signals (x : ((Int × (List Int)) × (Int × (List Int)))) : Option (List (Bool × Bool)) :=
  (iter (σ := (Int × (Int × (Int × ((List Int) × (Int × ((List Int) × (List (Bool × Bool))))))))) (fun s1 =>
    (cond (ilt s1.2.1 s1.1)
      (chk (okIx s1.2.1 (xlen s1.2.2.2.1))
      (chk (okIx s1.2.1 (xlen s1.2.2.2.2.2.1))
      (chk (okRoom (xlen s1.2.2.2.2.2.2) (xlen (((ige (iadd .i64 (xget s1.2.2.2.1 (i2n s1.2.1) 0) (xget s1.2.2.2.2.2.1 (i2n s1.2.1) 0)) s1.2.2.1), (ieq (iadd .i64 (xget s1.2.2.2.1 (i2n s1.2.1) 0) (xget s1.2.2.2.2.2.1 (i2n s1.2.1) 0)) (isub .i64 s1.2.2.1 1))) :: ([] : (List (Bool × Bool))))) 2)
      (some (.inl (s1.1, ((iadd .i64 s1.2.1 1), (s1.2.2.1, (s1.2.2.2.1, (s1.2.2.2.2.1, (s1.2.2.2.2.2.1, (xapp s1.2.2.2.2.2.2 (((ige (iadd .i64 (xget s1.2.2.2.1 (i2n s1.2.1) 0) (xget s1.2.2.2.2.2.1 (i2n s1.2.1) 0)) s1.2.2.1), (ieq (iadd .i64 (xget s1.2.2.2.1 (i2n s1.2.1) 0) (xget s1.2.2.2.2.2.1 (i2n s1.2.1) 0)) (isub .i64 s1.2.2.1 1))) :: ([] : (List (Bool × Bool))))))))))))))))
      (some (.inr s1.2.2.2.2.2.2))))
    ((n2i (xlen x.1.2)), (0, (x.1.1, (x.1.2, (x.2.1, (x.2.2, ([] : (List (Bool × Bool))))))))))

noncomputable def F_i_SignalsOf (x : ((Int × (List Int)) × (Int × (List Int)))) : Option ((List (Bool × Bool)) × Int) :=
  (Option.bind (F_i_pairCode (x.1, x.2)) fun r1 =>
    (cond (ine r1 0)
      (some (([] : (List (Bool × Bool))), r1))
      (Option.bind (F_i_signals (x.1, x.2)) fun r3 =>
        (some (r3, 0)))))

noncomputable def F_l_eqSignal (x : ((Bool × Bool) × (Bool × Bool))) : Option Bool :=
  (cond (bnev x.1.1 x.2.1)
    (some false)
    (cond (bnev x.1.2 x.2.2)
      (some false)
      (some true)))

noncomputable def F_l_eqSignalS (x : ((List (Bool × Bool)) × (List (Bool × Bool)))) : Option Bool :=
  (cond (ine (n2i (xlen x.1)) (n2i (xlen x.2)))
    (some false)
    (iter (σ := (Int × ((List (Bool × Bool)) × (List (Bool × Bool))))) (fun s2 =>
      (cond (ilt s2.1 (n2i (xlen s2.2.1)))
        (chk (okIx s2.1 (xlen s2.2.1))
        (chk (okIx s2.1 (xlen s2.2.2))
        (Option.bind (F_l_eqSignal ((xget s2.2.1 (i2n s2.1) (false, false)), (xget s2.2.2 (i2n s2.1) (false, false)))) fun r4 =>
          (cond (bnot r4)
            (some (.inr false))
            (some (.inl ((iadd .i64 s2.1 1), s2.2)))))))
        (some (.inr true))))
      (0, x)))

noncomputable def F_l_markSignalS (x : ((List (Bool × Bool)) × Int)) : Option (Int × (List (Bool × Bool))) :=
  (iter (σ := (Int × (Int × (List (Bool × Bool))))) (fun s1 =>
    (cond (ilt s1.2.1 (n2i (xlen s1.2.2)))
      (chk (okDiv 3)
      (chk (okIx s1.2.1 (xlen s1.2.2))
      (chk (okDiv 3)
      (chk (okIx s1.2.1 (xlen (xset s1.2.2 (i2n s1.2.1) ((ieq (irem s1.1 3) 0), (xget s1.2.2 (i2n s1.2.1) (false, false)).2))))
      (some (.inl ((iadd .i64 (iadd .i64 s1.1 1) 1), ((iadd .i64 s1.2.1 1), (xset (xset s1.2.2 (i2n s1.2.1) ((ieq (irem s1.1 3) 0), (xget s1.2.2 (i2n s1.2.1) (false, false)).2)) (i2n s1.2.1) ((xget (xset s1.2.2 (i2n s1.2.1) ((ieq (irem s1.1 3) 0), (xget s1.2.2 (i2n s1.2.1) (false, false)).2)) (i2n s1.2.1) (false, false)).1, (ieq (irem (iadd .i64 s1.1 1) 3) 0)))))))))))
      (some (.inr (s1.1, s1.2.2)))))
    (x.2, (0, x.1)))

noncomputable def F_l_heldSignalS (x : ((List (Bool × Bool)) × Int)) : Option Int :=
  (iter (σ := (Int × (Int × (List (Bool × Bool))))) (fun s1 =>
    (cond (ilt s1.2.1 (n2i (xlen s1.2.2)))
      (chk (okIx s1.2.1 (xlen s1.2.2))
      (chk (okDiv 3)
      (cond (bnev (xget s1.2.2 (i2n s1.2.1) (false, false)).1 (ieq (irem s1.1 3) 0))
        (some (.inr (-1)))
        (chk (okIx s1.2.1 (xlen s1.2.2))
        (chk (okDiv 3)
        (cond (bnev (xget s1.2.2 (i2n s1.2.1) (false, false)).2 (ieq (irem (iadd .i64 s1.1 1) 3) 0))
          (some (.inr (-1)))
          (some (.inl ((iadd .i64 (iadd .i64 s1.1 1) 1), ((iadd .i64 s1.2.1 1), s1.2.2))))))))))
      (some (.inr s1.1))))
    (x.2, (0, x.1)))

noncomputable def F_l_FnExactSignalsOf (x : ((Int × (List Int)) × (Int × (List Int)))) : Option Bool :=
  (Option.bind (F_l_szRegister (x.1, 1048576)) fun r1 =>
    (cond (ilt r1 0)
      (some true)
      (Option.bind (F_l_szRegister (x.2, r1)) fun r3 =>
        (cond (ilt r3 0)
          (some true)
          (Option.bind (F_l_toRegister x.1) fun r5 =>
            (Option.bind (F_l_toRegister x.2) fun r6 =>
              (Option.bind (F_s_SignalsOf (r5, r6)) fun r7 =>
                (Option.bind (F_l_toRegister x.1) fun r8 =>
                  (Option.bind (F_l_toRegister x.2) fun r9 =>
                    (Option.bind (F_i_SignalsOf (r8, r9)) fun r10 =>
                      (Option.bind (F_l_eqSignalS (r10.1, r7.1)) fun r11 =>
                        (cond (bnot r11)
                          (some false)
                          (cond (ine r10.2 r7.2)
                            (some false)
                            (Option.bind (F_l_toRegister x.1) fun r14 =>
                              (Option.bind (F_l_eqRegister (r8, r14)) fun r15 =>
                                (cond (bnot r15)
                                  (some false)
                                  (Option.bind (F_l_toRegister x.2) fun r17 =>
                                    (Option.bind (F_l_eqRegister (r9, r17)) fun r18 =>
                                      (cond (bnot r18)
                                        (some false)
                                        (Option.bind (F_l_markRegister (r8, 1)) fun r20 =>
                                          (Option.bind (F_l_markRegister (r9, r20.1)) fun r21 =>
                                            (cond (ilt r21.1 0)
                                              (some false)
                                              (Option.bind (F_l_eqSignalS (r10.1, r7.1)) fun r23 =>
                                                (cond (bnot r23)
                                                  (some false)
                                                  (cond (ine r10.2 r7.2)
                                                    (some false)
                                                    (Option.bind (F_l_markSignalS (r10.1, 1)) fun r26 =>
                                                      (Option.bind (F_l_heldSignalS (r26.2, 1)) fun r27 =>
                                                        (cond (ilt r27 0)
                                                          (some false)
                                                          (cond (ine r27 r26.1)
                                                            (some false)
                                                            (Option.bind (F_l_toRegister x.1) fun r30 =>
                                                              (Option.bind (F_l_toRegister x.2) fun r31 =>
                                                                (Option.bind (F_i_SignalsOf (r30, r31)) fun r32 =>
                                                                  (Option.bind (F_l_eqSignalS (r32.1, r7.1)) fun r33 =>
                                                                    (cond (bnot r33)
                                                                      (some false)
                                                                      (cond (ine r32.2 r7.2)
                                                                        (some false)
                                                                        (Option.bind (F_l_heldSignalS (r26.2, 1)) fun r36 =>
                                                                          (cond (ilt r36 0)
                                                                            (some false)
                                                                            (cond (ine r36 r26.1)
                                                                              (some false)
                                                                              (some true)))))))))))))))))))))))))))))))))))))))

noncomputable def F_s_l00Own (x : (List Int)) : Option (List Int) :=
  (chk (okRoom (xlen ([] : (List Int))) (xlen x) 8)
  (some (xapp ([] : (List Int)) x)))

noncomputable def F_s_l02Own (x : (Int × (List Int))) : Option (Int × (List Int)) :=
  (Option.bind (F_s_l00Own x.2) fun r1 =>
    (some (x.1, r1)))

noncomputable def F_s_l06New (x : (Int × (List Int))) : Option ((Int × (List Int)) × ((List Bool) × ((List Bool) × (List (Int × (Int × Int)))))) :=
  (Option.bind (F_s_l02Own x) fun r1 =>
    (chk (ieq (n2i (xlen x.2)) (n2i (xlen x.2)))
    (chk (okMake (n2i (xlen x.2)) 1)
    (chk (ieq (n2i (xlen x.2)) (n2i (xlen x.2)))
    (chk (okMake (n2i (xlen x.2)) 1)
    (some (r1, ((xrep (i2n (n2i (xlen x.2))) false), ((xrep (i2n (n2i (xlen x.2))) false), ([] : (List (Int × (Int × Int)))))))))))))

noncomputable def F_s_l06S_note (x : (((Int × (List Int)) × ((List Bool) × ((List Bool) × (List (Int × (Int × Int)))))) × (Int × (Int × Int)))) : Option ((Int × (List Int)) × ((List Bool) × ((List Bool) × (List (Int × (Int × Int)))))) :=
  (chk (okRoom (xlen x.1.2.2.2) (xlen ((x.2.1, x.2.2) :: ([] : (List (Int × (Int × Int)))))) 24)
  (some (x.1.1, (x.1.2.1, (x.1.2.2.1, (xapp x.1.2.2.2 ((x.2.1, x.2.2) :: ([] : (List (Int × (Int × Int)))))))))))

noncomputable def F_s_l06S_turn (x : (((Int × (List Int)) × ((List Bool) × ((List Bool) × (List (Int × (Int × Int)))))) × (Int × (Int × Bool)))) : Option ((Int × (List Int)) × ((List Bool) × ((List Bool) × (List (Int × (Int × Int)))))) :=
  (chk (okIx x.2.1 (xlen x.1.1.2))
  (cond (ige (iadd .i64 (xget x.1.1.2 (i2n x.2.1) 0) x.2.2.1) x.1.1.1)
    (chk (okIx x.2.1 (xlen x.1.2.1))
    (chk (okIx x.2.1 (xlen x.1.2.2.1))
    (Option.bind (F_s_l06S_note ((x.1.1, ((xset x.1.2.1 (i2n x.2.1) true), ((xset x.1.2.2.1 (i2n x.2.1) x.2.2.2), x.1.2.2.2))), (2, (x.2.1, 0)))) fun r2 =>
      (chk (okIx x.2.1 (xlen r2.1.2))
      (some ((r2.1.1, (xset r2.1.2 (i2n x.2.1) (isub .i64 (iadd .i64 (xget x.1.1.2 (i2n x.2.1) 0) x.2.2.1) x.1.1.1))), (r2.2.1, r2.2.2)))))))
    (chk (okIx x.2.1 (xlen x.1.1.2))
    (some ((x.1.1.1, (xset x.1.1.2 (i2n x.2.1) (iadd .i64 (xget x.1.1.2 (i2n x.2.1) 0) x.2.2.1))), (x.1.2.1, x.1.2.2))))))

noncomputable def F_s_l06S_first (x : (((Int × (List Int)) × ((List Bool) × ((List Bool) × (List (Int × (Int × Int)))))) × (Int × (List Int)))) : Option ((Int × (List Int)) × ((List Bool) × ((List Bool) × (List (Int × (Int × Int)))))) :=
  (iter (σ := (Int × (Int × ((List Int) × ((List Bool) × ((List Bool) × ((List (Int × (Int × Int))) × (List (Int × (List Int)))))))))) (fun s1 =>
    (cond (ilt s1.1 (n2i (xlen (xget s1.2.2.2.2.2.2 0 (0, ([] : (List Int)))).2)))
      (chk (okIx s1.1 (xlen (xget s1.2.2.2.2.2.2 0 (0, ([] : (List Int)))).2))
      (cond (igt (xget (xget s1.2.2.2.2.2.2 0 (0, ([] : (List Int)))).2 (i2n s1.1) 0) 0)
        (chk (okIx s1.1 (xlen (xget s1.2.2.2.2.2.2 0 (0, ([] : (List Int)))).2))
        (Option.bind (F_s_l06S_note (((s1.2.1, s1.2.2.1), (s1.2.2.2.1, (s1.2.2.2.2.1, s1.2.2.2.2.2.1))), (1, (s1.1, (xget (xget s1.2.2.2.2.2.2 0 (0, ([] : (List Int)))).2 (i2n s1.1) 0))))) fun r4 =>
          (chk (okIx s1.1 (xlen (xget s1.2.2.2.2.2.2 0 (0, ([] : (List Int)))).2))
          (Option.bind (F_s_l06S_turn ((r4.1, (r4.2.1, r4.2.2)), (s1.1, ((xget (xget s1.2.2.2.2.2.2 0 (0, ([] : (List Int)))).2 (i2n s1.1) 0), false)))) fun r5 =>
            (some (.inl ((iadd .i64 s1.1 1), (r5.1.1, (r5.1.2, (r5.2.1, (r5.2.2.1, (r5.2.2.2, s1.2.2.2.2.2.2))))))))))))
        (some (.inl ((iadd .i64 s1.1 1), (s1.2.1, (s1.2.2.1, (s1.2.2.2.1, (s1.2.2.2.2.1, s1.2.2.2.2.2)))))))))
      (some (.inr ((s1.2.1, s1.2.2.1), (s1.2.2.2.1, (s1.2.2.2.2.1, s1.2.2.2.2.2.1)))))))
    (0, (x.1.1.1, (x.1.1.2, (x.1.2.1, (x.1.2.2.1, (x.1.2.2.2, (x.2 :: ([] : (List (Int × (List Int))))))))))))

noncomputable def F_s_l06S_second (x : ((Int × (List Int)) × ((List Bool) × ((List Bool) × (List (Int × (Int × Int))))))) : Option ((Int × (List Int)) × ((List Bool) × ((List Bool) × (List (Int × (Int × Int)))))) :=
  (iter (σ := (Int × (Int × (Int × ((List Int) × ((List Bool) × ((List Bool) × (List (Int × (Int × Int)))))))))) (fun s1 =>
    (cond (ilt s1.2.1 s1.1)
      (chk (okIx s1.2.1 (xlen s1.2.2.2.2.1))
      (cond (bnot (xget s1.2.2.2.2.1 (i2n s1.2.1) false))
        (some (.inl (s1.1, ((iadd .i64 s1.2.1 1), (s1.2.2.1, (s1.2.2.2.1, (s1.2.2.2.2.1, s1.2.2.2.2.2)))))))
        (Option.bind (F_s_l06S_note (((s1.2.2.1, s1.2.2.2.1), (s1.2.2.2.2.1, s1.2.2.2.2.2)), (3, (s1.2.1, 0)))) fun r4 =>
          (cond (ilt (iadd .i64 s1.2.1 1) s1.1)
            (Option.bind (F_s_l06S_turn ((r4.1, (r4.2.1, r4.2.2)), ((iadd .i64 s1.2.1 1), (1, true)))) fun r6 =>
              (some (.inl (s1.1, ((iadd .i64 s1.2.1 1), (r6.1.1, (r6.1.2, (r6.2.1, r6.2.2))))))))
            (some (.inl (s1.1, ((iadd .i64 s1.2.1 1), (r4.1.1, (r4.1.2, (r4.2.1, r4.2.2)))))))))))
      (some (.inr ((s1.2.2.1, s1.2.2.2.1), (s1.2.2.2.2.1, s1.2.2.2.2.2))))))
    ((n2i (xlen x.2.1)), (0, (x.1.1, (x.1.2, (x.2.1, x.2.2))))))

noncomputable def F_s_l06Run (x : ((Int × (List Int)) × (Int × (List Int)))) : Option ((Int × (List Int)) × ((List Bool) × ((List Bool) × (List (Int × (Int × Int)))))) :=
  (Option.bind (F_s_l06New x.1) fun r1 =>
    (Option.bind (F_s_l06S_first ((r1.1, (r1.2.1, r1.2.2)), x.2)) fun r2 =>
      (Option.bind (F_s_l06S_second (r2.1, (r2.2.1, r2.2.2))) fun r3 =>
        (some (r3.1, (r3.2.1, r3.2.2))))))

noncomputable def F_s_CountPushes (x : ((Int × (List Int)) × (Int × (List Int)))) : Option (Int × Int) :=
  (Option.bind (F_s_l02Two (x.1, x.2)) fun r1 =>
    (cond (ine r1 0)
      (some (0, r1))
      (Option.bind (F_s_l06Run (x.1, x.2)) fun r3 =>
        (iter (σ := (Int × (Int × (List (Int × (Int × Int)))))) (fun s4 =>
          (cond (ilt s4.2.1 (n2i (xlen s4.2.2)))
            (chk (okIx s4.2.1 (xlen s4.2.2))
            (cond (ieq (xget s4.2.2 (i2n s4.2.1) (0, (0, 0))).1 3)
              (some (.inl ((iadd .i64 s4.1 1), ((iadd .i64 s4.2.1 1), s4.2.2))))
              (some (.inl (s4.1, ((iadd .i64 s4.2.1 1), s4.2.2))))))
            (some (.inr (s4.1, 0)))))
          (0, (0, r3.2.2.2))))))

noncomputable def F_i_copyNumbers (x : (List Int)) : Option (List Int) :=
  (chk (okRoom (xlen ([] : (List Int))) (xlen x) 8)
  (some (xapp ([] : (List Int)) x)))

noncomputable def F_i_pushed (x : ((Int × (List Int)) × (List Bool))) : Option ((Int × (List Int)) × (List Bool)) :=
  (Option.bind (F_i_copyNumbers x.1.2) fun r1 =>
    (chk (okRoom (xlen ([] : (List Bool))) (xlen x.2) 1)
    (iter (σ := (Int × (Int × (Int × ((List Int) × (Int × ((List Int) × (Int × ((List Int) × (List Bool)))))))))) (fun s2 =>
      (cond (ilt s2.2.1 s2.1)
        (chk (okIx s2.2.1 (xlen s2.2.2.2.2.2.2.2.2))
        (cond (bnot (xget s2.2.2.2.2.2.2.2.2 (i2n s2.2.1) false))
          (some (.inl (s2.1, ((iadd .i64 s2.2.1 1), (s2.2.2.1, (s2.2.2.2.1, (s2.2.2.2.2.1, (s2.2.2.2.2.2.1, (s2.2.2.2.2.2.2.1, s2.2.2.2.2.2.2.2)))))))))
          (cond (ieq (iadd .i64 s2.2.1 1) (n2i (xlen s2.2.2.2.2.2.2.2.2)))
            (some (.inl (s2.1, ((iadd .i64 s2.2.1 1), (s2.2.2.1, (s2.2.2.2.1, (s2.2.2.2.2.1, (s2.2.2.2.2.2.1, (s2.2.2.2.2.2.2.1, s2.2.2.2.2.2.2.2)))))))))
            (chk (okIx (iadd .i64 s2.2.1 1) (xlen s2.2.2.2.2.2.2.2.1))
            (chk (okIx (iadd .i64 s2.2.1 1) (xlen s2.2.2.2.2.2.2.2.1))
            (chk (okIx (iadd .i64 s2.2.1 1) (xlen (xset s2.2.2.2.2.2.2.2.1 (i2n (iadd .i64 s2.2.1 1)) (iadd .i64 (xget s2.2.2.2.2.2.2.2.1 (i2n (iadd .i64 s2.2.1 1)) 0) 1))))
            (cond (ieq (xget (xset s2.2.2.2.2.2.2.2.1 (i2n (iadd .i64 s2.2.1 1)) (iadd .i64 (xget s2.2.2.2.2.2.2.2.1 (i2n (iadd .i64 s2.2.1 1)) 0) 1)) (i2n (iadd .i64 s2.2.1 1)) 0) s2.2.2.1)
              (chk (okIx (iadd .i64 s2.2.1 1) (xlen (xset s2.2.2.2.2.2.2.2.1 (i2n (iadd .i64 s2.2.1 1)) (iadd .i64 (xget s2.2.2.2.2.2.2.2.1 (i2n (iadd .i64 s2.2.1 1)) 0) 1))))
              (chk (okIx (iadd .i64 s2.2.1 1) (xlen s2.2.2.2.2.2.2.2.2))
              (some (.inl (s2.1, ((iadd .i64 s2.2.1 1), (s2.2.2.1, (s2.2.2.2.1, (s2.2.2.2.2.1, (s2.2.2.2.2.2.1, (s2.2.2.2.2.2.2.1, ((xset (xset s2.2.2.2.2.2.2.2.1 (i2n (iadd .i64 s2.2.1 1)) (iadd .i64 (xget s2.2.2.2.2.2.2.2.1 (i2n (iadd .i64 s2.2.1 1)) 0) 1)) (i2n (iadd .i64 s2.2.1 1)) 0), (xset s2.2.2.2.2.2.2.2.2 (i2n (iadd .i64 s2.2.1 1)) true)))))))))))))
              (some (.inl (s2.1, ((iadd .i64 s2.2.1 1), (s2.2.2.1, (s2.2.2.2.1, (s2.2.2.2.2.1, (s2.2.2.2.2.2.1, (s2.2.2.2.2.2.2.1, ((xset s2.2.2.2.2.2.2.2.1 (i2n (iadd .i64 s2.2.1 1)) (iadd .i64 (xget s2.2.2.2.2.2.2.2.1 (i2n (iadd .i64 s2.2.1 1)) 0) 1)), s2.2.2.2.2.2.2.2.2)))))))))))))))))
        (some (.inr ((s2.2.2.2.2.2.2.1, s2.2.2.2.2.2.2.2.1), s2.2.2.2.2.2.2.2.2)))))
      ((n2i (xlen (xapp ([] : (List Bool)) x.2))), (0, (x.1.1, (x.1.2, (0, (([] : (List Int)), (x.1.1, (r1, (xapp ([] : (List Bool)) x.2))))))))))))

noncomputable def F_i_turned (x : ((Int × (List Int)) × (Int × (List Int)))) : Option ((Int × (List Int)) × (List Bool)) :=
  (iter (σ := (Int × (Int × (Int × ((List Int) × (Int × ((List Int) × (Int × ((List Int) × (Int × ((List Int) × (List Bool)))))))))))) (fun s1 =>
    (cond (ilt s1.2.1 s1.1)
      (chk (okIx s1.2.1 (xlen s1.2.2.2.1))
      (chk (okIx s1.2.1 (xlen s1.2.2.2.2.2.1))
      (chk (okDiv s1.2.2.1)
      (chk (okRoom (xlen s1.2.2.2.2.2.2.2.2.2.1) (xlen ((irem (iadd .i64 (xget s1.2.2.2.1 (i2n s1.2.1) 0) (xget s1.2.2.2.2.2.1 (i2n s1.2.1) 0)) s1.2.2.1) :: ([] : (List Int)))) 8)
      (chk (okRoom (xlen s1.2.2.2.2.2.2.2.2.2.2) (xlen ((ige (iadd .i64 (xget s1.2.2.2.1 (i2n s1.2.1) 0) (xget s1.2.2.2.2.2.1 (i2n s1.2.1) 0)) s1.2.2.1) :: ([] : (List Bool)))) 1)
      (some (.inl (s1.1, ((iadd .i64 s1.2.1 1), (s1.2.2.1, (s1.2.2.2.1, (s1.2.2.2.2.1, (s1.2.2.2.2.2.1, (s1.2.2.2.2.2.2.1, (s1.2.2.2.2.2.2.2.1, (s1.2.2.2.2.2.2.2.2.1, ((xapp s1.2.2.2.2.2.2.2.2.2.1 ((irem (iadd .i64 (xget s1.2.2.2.1 (i2n s1.2.1) 0) (xget s1.2.2.2.2.2.1 (i2n s1.2.1) 0)) s1.2.2.1) :: ([] : (List Int)))), (xapp s1.2.2.2.2.2.2.2.2.2.2 ((ige (iadd .i64 (xget s1.2.2.2.1 (i2n s1.2.1) 0) (xget s1.2.2.2.2.2.1 (i2n s1.2.1) 0)) s1.2.2.1) :: ([] : (List Bool)))))))))))))))))))))
      (some (.inr ((s1.2.2.2.2.2.2.2.2.1, s1.2.2.2.2.2.2.2.2.2.1), s1.2.2.2.2.2.2.2.2.2.2)))))
    ((n2i (xlen x.1.2)), (0, (x.1.1, (x.1.2, (x.2.1, (x.2.2, (0, (([] : (List Int)), (x.1.1, (([] : (List Int)), ([] : (List Bool)))))))))))))

noncomputable def F_i_CountPushes (x : ((Int × (List Int)) × (Int × (List Int)))) : Option (Int × Int) :=
  (Option.bind (F_i_pairCode (x.1, x.2)) fun r1 =>
    (cond (ine r1 0)
      (some (0, r1))
      (Option.bind (F_i_turned (x.1, x.2)) fun r3 =>
        (Option.bind (F_i_pushed (r3.1, r3.2)) fun r4 =>
          (iter (σ := (Int × (Int × (Int × (List Bool))))) (fun s5 =>
            (cond (ilt s5.2.2.1 s5.2.1)
              (chk (okIx s5.2.2.1 (xlen s5.2.2.2))
              (cond (xget s5.2.2.2 (i2n s5.2.2.1) false)
                (some (.inl ((iadd .i64 s5.1 1), (s5.2.1, ((iadd .i64 s5.2.2.1 1), s5.2.2.2)))))
                (some (.inl (s5.1, (s5.2.1, ((iadd .i64 s5.2.2.1 1), s5.2.2.2)))))))
              (some (.inr (s5.1, 0)))))
            (0, ((n2i (xlen r4.2)), (0, r4.2))))))))

noncomputable def F_l_FnExactCountPushes (x : ((Int × (List Int)) × (Int × (List Int)))) : Option Bool :=
  (Option.bind (F_l_szRegister (x.1, 1048576)) fun r1 =>
    (cond (ilt r1 0)
      (some true)
      (Option.bind (F_l_szRegister (x.2, r1)) fun r3 =>
        (cond (ilt r3 0)
          (some true)
          (Option.bind (F_l_toRegister x.1) fun r5 =>
            (Option.bind (F_l_toRegister x.2) fun r6 =>
              (Option.bind (F_s_CountPushes (r5, r6)) fun r7 =>
                (Option.bind (F_l_toRegister x.1) fun r8 =>
                  (Option.bind (F_l_toRegister x.2) fun r9 =>
                    (Option.bind (F_i_CountPushes (r8, r9)) fun r10 =>
                      (cond (ine r10.1 r7.1)
                        (some false)
                        (cond (ine r10.2 r7.2)
                          (some false)
                          (Option.bind (F_l_toRegister x.1) fun r13 =>
                            (Option.bind (F_l_eqRegister (r8, r13)) fun r14 =>
                              (cond (bnot r14)
                                (some false)
                                (Option.bind (F_l_toRegister x.2) fun r16 =>
                                  (Option.bind (F_l_eqRegister (r9, r16)) fun r17 =>
                                    (cond (bnot r17)
                                      (some false)
                                      (some true)))))))))))))))))))

noncomputable def F_s_l00Max (x : (Int × Int)) : Option Int :=
  (cond (igt x.1 x.2)
    (some x.1)
    (some x.2))

noncomputable def F_s_RippleOf (x : ((Int × (List Int)) × (Int × (List Int)))) : Option (Int × Int) :=
  (Option.bind (F_s_l02Two (x.1, x.2)) fun r1 =>
    (cond (ine r1 0)
      (some (0, r1))
      (Option.bind (F_s_l06Run (x.1, x.2)) fun r3 =>
        (iter (σ := (Int × (Int × (Int × (Int × ((List Int) × ((List Bool) × ((List Bool) × (List (Int × (Int × Int))))))))))) (fun s4 =>
          (cond (ilt s4.2.2.1 (n2i (xlen s4.2.2.2.2.2.1)))
            (chk (okIx s4.2.2.1 (xlen s4.2.2.2.2.2.1))
            (cond (bnot (xget s4.2.2.2.2.2.1 (i2n s4.2.2.1) false))
              (Option.bind (F_s_l00Max (s4.1, 0)) fun r7 =>
                (some (.inl (r7, (0, ((iadd .i64 s4.2.2.1 1), (s4.2.2.2.1, (s4.2.2.2.2.1, (s4.2.2.2.2.2.1, s4.2.2.2.2.2.2)))))))))
              (chk (okIx s4.2.2.1 (xlen s4.2.2.2.2.2.2.1))
              (cond (xget s4.2.2.2.2.2.2.1 (i2n s4.2.2.1) false)
                (Option.bind (F_s_l00Max (s4.1, (iadd .i64 s4.2.1 1))) fun r8 =>
                  (some (.inl (r8, ((iadd .i64 s4.2.1 1), ((iadd .i64 s4.2.2.1 1), (s4.2.2.2.1, (s4.2.2.2.2.1, (s4.2.2.2.2.2.1, s4.2.2.2.2.2.2)))))))))
                (Option.bind (F_s_l00Max (s4.1, 1)) fun r8 =>
                  (some (.inl (r8, (1, ((iadd .i64 s4.2.2.1 1), (s4.2.2.2.1, (s4.2.2.2.2.1, (s4.2.2.2.2.2.1, s4.2.2.2.2.2.2)))))))))))))
            (some (.inr (s4.1, 0)))))
          (0, (0, (0, (r3.1.1, (r3.1.2, (r3.2.1, r3.2.2))))))))))

noncomputable def F_i_RippleOf (x : ((Int × (List Int)) × (Int × (List Int)))) : Option (Int × Int) :=
  (Option.bind (F_i_pairCode (x.1, x.2)) fun r1 =>
    (cond (ine r1 0)
      (some (0, r1))
      (Option.bind (F_i_turned (x.1, x.2)) fun r3 =>
        (Option.bind (F_i_pushed (r3.1, r3.2)) fun r4 =>
          (iter (σ := (Int × (Int × (Int × (Int × ((List Bool) × (List Bool))))))) (fun s5 =>
            (cond (ilt s5.2.2.2.1 s5.2.2.1)
              (chk (okIx s5.2.2.2.1 (xlen s5.2.2.2.2.1))
              (cond (xget s5.2.2.2.2.1 (i2n s5.2.2.2.1) false)
                (some (.inl (1, ((imax s5.2.1 1), (s5.2.2.1, ((iadd .i64 s5.2.2.2.1 1), s5.2.2.2.2))))))
                (chk (okIx s5.2.2.2.1 (xlen s5.2.2.2.2.2))
                (cond (xget s5.2.2.2.2.2 (i2n s5.2.2.2.1) false)
                  (some (.inl ((iadd .i64 s5.1 1), ((imax s5.2.1 (iadd .i64 s5.1 1)), (s5.2.2.1, ((iadd .i64 s5.2.2.2.1 1), s5.2.2.2.2))))))
                  (some (.inl (0, ((imax s5.2.1 0), (s5.2.2.1, ((iadd .i64 s5.2.2.2.1 1), s5.2.2.2.2))))))))))
              (some (.inr (s5.2.1, 0)))))
            (0, (0, ((n2i (xlen r4.2)), (0, (r3.2, r4.2))))))))))

noncomputable def F_l_FnExactRippleOf (x : ((Int × (List Int)) × (Int × (List Int)))) : Option Bool :=
  (Option.bind (F_l_szRegister (x.1, 1048576)) fun r1 =>
    (cond (ilt r1 0)
      (some true)
      (Option.bind (F_l_szRegister (x.2, r1)) fun r3 =>
        (cond (ilt r3 0)
          (some true)
          (Option.bind (F_l_toRegister x.1) fun r5 =>
            (Option.bind (F_l_toRegister x.2) fun r6 =>
              (Option.bind (F_s_RippleOf (r5, r6)) fun r7 =>
                (Option.bind (F_l_toRegister x.1) fun r8 =>
                  (Option.bind (F_l_toRegister x.2) fun r9 =>
                    (Option.bind (F_i_RippleOf (r8, r9)) fun r10 =>
                      (cond (ine r10.1 r7.1)
                        (some false)
                        (cond (ine r10.2 r7.2)
                          (some false)
                          (Option.bind (F_l_toRegister x.1) fun r13 =>
                            (Option.bind (F_l_eqRegister (r8, r13)) fun r14 =>
                              (cond (bnot r14)
                                (some false)
                                (Option.bind (F_l_toRegister x.2) fun r16 =>
                                  (Option.bind (F_l_eqRegister (r9, r16)) fun r17 =>
                                    (cond (bnot r17)
                                      (some false)
                                      (some true)))))))))))))))))))

noncomputable def F_s_l06Full (x : (Int × (List Int))) : Option Int :=
  (Option.bind (F_s_l02Ok x) fun r1 =>
    (cond (bnot r1)
      (some 5)
      (some 0)))

noncomputable def F_s_TurnWheels (x : ((Int × (List Int)) × (Int × (List Int)))) : Option ((Int × (List Int)) × ((List Bool) × Int)) :=
  (Option.bind (F_s_l02Two (x.1, x.2)) fun r1 =>
    (cond (ine r1 0)
      (some ((0, ([] : (List Int))), (([] : (List Bool)), r1)))
      (Option.bind (F_s_l06New x.1) fun r3 =>
        (Option.bind (F_s_l06S_first ((r3.1, (r3.2.1, r3.2.2)), x.2)) fun r4 =>
          (Option.bind (F_s_l06Full r4.1) fun r5 =>
            (cond (ine r5 0)
              (some ((0, ([] : (List Int))), (([] : (List Bool)), r5)))
              (some (r4.1, (r4.2.1, 0)))))))))

noncomputable def F_i_TurnWheels (x : ((Int × (List Int)) × (Int × (List Int)))) : Option ((Int × (List Int)) × ((List Bool) × Int)) :=
  (Option.bind (F_i_pairCode (x.1, x.2)) fun r1 =>
    (cond (ine r1 0)
      (some ((0, ([] : (List Int))), (([] : (List Bool)), r1)))
      (Option.bind (F_i_turned (x.1, x.2)) fun r3 =>
        (Option.bind (F_i_ValidRegister r3.1) fun r4 =>
          (cond (bnot r4)
            (some ((0, ([] : (List Int))), (([] : (List Bool)), 5)))
            (some (r3.1, (r3.2, 0))))))))

noncomputable def F_l_eqBoolS (x : ((List Bool) × (List Bool))) : Option Bool :=
  (cond (ine (n2i (xlen x.1)) (n2i (xlen x.2)))
    (some false)
    (iter (σ := (Int × ((List Bool) × (List Bool)))) (fun s2 =>
      (cond (ilt s2.1 (n2i (xlen s2.2.1)))
        (chk (okIx s2.1 (xlen s2.2.1))
        (chk (okIx s2.1 (xlen s2.2.2))
        (cond (bnev (xget s2.2.1 (i2n s2.1) false) (xget s2.2.2 (i2n s2.1) false))
          (some (.inr false))
          (some (.inl ((iadd .i64 s2.1 1), s2.2))))))
        (some (.inr true))))
      (0, x)))

noncomputable def F_l_markBoolS (x : ((List Bool) × Int)) : Option (Int × (List Bool)) :=
  (iter (σ := (Int × (Int × (List Bool)))) (fun s1 =>
    (cond (ilt s1.2.1 (n2i (xlen s1.2.2)))
      (chk (okDiv 3)
      (chk (okIx s1.2.1 (xlen s1.2.2))
      (some (.inl ((iadd .i64 s1.1 1), ((iadd .i64 s1.2.1 1), (xset s1.2.2 (i2n s1.2.1) (ieq (irem s1.1 3) 0))))))))
      (some (.inr (s1.1, s1.2.2)))))
    (x.2, (0, x.1)))

noncomputable def F_l_heldBoolS (x : ((List Bool) × Int)) : Option Int :=
  (iter (σ := (Int × (Int × (List Bool)))) (fun s1 =>
    (cond (ilt s1.2.1 (n2i (xlen s1.2.2)))
      (chk (okIx s1.2.1 (xlen s1.2.2))
      (chk (okDiv 3)
      (cond (bnev (xget s1.2.2 (i2n s1.2.1) false) (ieq (irem s1.1 3) 0))
        (some (.inr (-1)))
        (some (.inl ((iadd .i64 s1.1 1), ((iadd .i64 s1.2.1 1), s1.2.2)))))))
      (some (.inr s1.1))))
    (x.2, (0, x.1)))

noncomputable def F_l_FnExactTurnWheels (x : ((Int × (List Int)) × (Int × (List Int)))) : Option Bool :=
  (Option.bind (F_l_szRegister (x.1, 1048576)) fun r1 =>
    (cond (ilt r1 0)
      (some true)
      (Option.bind (F_l_szRegister (x.2, r1)) fun r3 =>
        (cond (ilt r3 0)
          (some true)
          (Option.bind (F_l_toRegister x.1) fun r5 =>
            (Option.bind (F_l_toRegister x.2) fun r6 =>
              (Option.bind (F_s_TurnWheels (r5, r6)) fun r7 =>
                (Option.bind (F_l_toRegister x.1) fun r8 =>
                  (Option.bind (F_l_toRegister x.2) fun r9 =>
                    (Option.bind (F_i_TurnWheels (r8, r9)) fun r10 =>
                      (Option.bind (F_l_eqRegister (r10.1, r7.1)) fun r11 =>
                        (cond (bnot r11)
                          (some false)
                          (Option.bind (F_l_eqBoolS (r10.2.1, r7.2.1)) fun r13 =>
                            (cond (bnot r13)
                              (some false)
                              (cond (ine r10.2.2 r7.2.2)
                                (some false)
                                (Option.bind (F_l_toRegister x.1) fun r16 =>
                                  (Option.bind (F_l_eqRegister (r8, r16)) fun r17 =>
                                    (cond (bnot r17)
                                      (some false)
                                      (Option.bind (F_l_toRegister x.2) fun r19 =>
                                        (Option.bind (F_l_eqRegister (r9, r19)) fun r20 =>
                                          (cond (bnot r20)
                                            (some false)
                                            (Option.bind (F_l_markRegister (r8, 1)) fun r22 =>
                                              (Option.bind (F_l_markRegister (r9, r22.1)) fun r23 =>
                                                (cond (ilt r23.1 0)
                                                  (some false)
                                                  (Option.bind (F_l_eqRegister (r10.1, r7.1)) fun r25 =>
                                                    (cond (bnot r25)
                                                      (some false)
                                                      (Option.bind (F_l_eqBoolS (r10.2.1, r7.2.1)) fun r27 =>
                                                        (cond (bnot r27)
                                                          (some false)
                                                          (cond (ine r10.2.2 r7.2.2)
                                                            (some false)
                                                            (Option.bind (F_l_markRegister (r10.1, 1)) fun r30 =>
                                                              (Option.bind (F_l_markBoolS (r10.2.1, r30.1)) fun r31 =>
                                                                (Option.bind (F_l_heldRegister ((r10.1.1, r30.2.2), 1)) fun r32 =>
                                                                  (cond (ilt r32 0)
                                                                    (some false)
                                                                    (Option.bind (F_l_heldBoolS (r31.2, r32)) fun r34 =>
                                                                      (cond (ilt r34 0)
                                                                        (some false)
                                                                        (cond (ine r34 r31.1)
                                                                          (some false)
                                                                          (Option.bind (F_l_toRegister x.1) fun r37 =>
                                                                            (Option.bind (F_l_toRegister x.2) fun r38 =>
                                                                              (Option.bind (F_i_TurnWheels (r37, r38)) fun r39 =>
                                                                                (Option.bind (F_l_eqRegister (r39.1, r7.1)) fun r40 =>
                                                                                  (cond (bnot r40)
                                                                                    (some false)
                                                                                    (Option.bind (F_l_eqBoolS (r39.2.1, r7.2.1)) fun r42 =>
                                                                                      (cond (bnot r42)
                                                                                        (some false)
                                                                                        (cond (ine r39.2.2 r7.2.2)
                                                                                          (some false)
                                                                                          (Option.bind (F_l_heldRegister ((r10.1.1, r30.2.2), 1)) fun r45 =>
                                                                                            (cond (ilt r45 0)
                                                                                              (some false)
                                                                                              (Option.bind (F_l_heldBoolS (r31.2, r45)) fun r47 =>
                                                                                                (cond (ilt r47 0)
                                                                                                  (some false)
                                                                                                  (cond (ine r47 r31.1)
                                                                                                    (some false)
                                                                                                    (some true))))))))))))))))))))))))))))))))))))))))))))))))))

noncomputable def F_l_szCarryEventS (x : ((List (Int × (Int × Int))) × Int)) : Option Int :=
  (cond (ilt (isub .i64 x.2 (n2i (xlen x.1))) 0)
    (some (-1))
    (some (isub .i64 x.2 (n2i (xlen x.1)))))

noncomputable def F_s_l06Event (x : ((Int × (List Int)) × (Int × (Int × Int)))) : Option Bool :=
  (Option.bind (F_s_l00In (x.2.1, (1, 3))) fun r1 =>
    (cond r1
      (Option.bind (F_s_l00In (x.2.2.1, (0, (isub .i64 (n2i (xlen x.1.2)) 1)))) fun r3 =>
        (cond r3
          (Option.bind (F_s_l00In (x.2.2.2, (0, (isub .i64 x.1.1 1)))) fun r5 =>
            (some r5))
          (some false)))
      (some false)))

noncomputable def F_s_ReplayEvents (x : ((Int × (List Int)) × (List (Int × (Int × Int))))) : Option ((Int × (List Int)) × Int) :=
  (Option.bind (F_s_l02Ok x.1) fun r1 =>
    (cond (bnot r1)
      (some ((0, ([] : (List Int))), 1))
      (Option.bind (F_s_l02Own x.1) fun r3 =>
        (iter (σ := (Int × ((List (Int × (Int × Int))) × (Int × ((List Int) × (Int × ((List Int) × (Int × (List Int))))))))) (fun s4 =>
          (cond (ilt s4.1 (n2i (xlen s4.2.1)))
            (chk (okIx s4.1 (xlen s4.2.1))
            (Option.bind (F_s_l06Event ((s4.2.2.1, s4.2.2.2.1), ((xget s4.2.1 (i2n s4.1) (0, (0, 0))).1, (xget s4.2.1 (i2n s4.1) (0, (0, 0))).2))) fun r6 =>
              (cond (bnot r6)
                (some (.inr ((0, ([] : (List Int))), 2)))
                (cond (ieq (xget s4.2.1 (i2n s4.1) (0, (0, 0))).1 1)
                  (chk (okIx (xget s4.2.1 (i2n s4.1) (0, (0, 0))).2.1 (xlen s4.2.2.2.2.2.2.2))
                  (chk (okDiv s4.2.2.1)
                  (chk (okIx (xget s4.2.1 (i2n s4.1) (0, (0, 0))).2.1 (xlen s4.2.2.2.2.2.2.2))
                  (some (.inl ((iadd .i64 s4.1 1), (s4.2.1, (s4.2.2.1, (s4.2.2.2.1, (s4.2.2.2.2.1, (s4.2.2.2.2.2.1, (s4.2.2.2.2.2.2.1, (xset s4.2.2.2.2.2.2.2 (i2n (xget s4.2.1 (i2n s4.1) (0, (0, 0))).2.1) (irem (iadd .i64 (xget s4.2.2.2.2.2.2.2 (i2n (xget s4.2.1 (i2n s4.1) (0, (0, 0))).2.1) 0) (xget s4.2.1 (i2n s4.1) (0, (0, 0))).2.2) s4.2.2.1))))))))))))))
                  (cond (ieq (xget s4.2.1 (i2n s4.1) (0, (0, 0))).1 3)
                    (cond (ilt (iadd .i64 (xget s4.2.1 (i2n s4.1) (0, (0, 0))).2.1 1) (n2i (xlen s4.2.2.2.2.2.2.2)))
                      (chk (okIx (iadd .i64 (xget s4.2.1 (i2n s4.1) (0, (0, 0))).2.1 1) (xlen s4.2.2.2.2.2.2.2))
                      (chk (okDiv s4.2.2.1)
                      (chk (okIx (iadd .i64 (xget s4.2.1 (i2n s4.1) (0, (0, 0))).2.1 1) (xlen s4.2.2.2.2.2.2.2))
                      (some (.inl ((iadd .i64 s4.1 1), (s4.2.1, (s4.2.2.1, (s4.2.2.2.1, (s4.2.2.2.2.1, (s4.2.2.2.2.2.1, (s4.2.2.2.2.2.2.1, (xset s4.2.2.2.2.2.2.2 (i2n (iadd .i64 (xget s4.2.1 (i2n s4.1) (0, (0, 0))).2.1 1)) (irem (iadd .i64 (xget s4.2.2.2.2.2.2.2 (i2n (iadd .i64 (xget s4.2.1 (i2n s4.1) (0, (0, 0))).2.1 1)) 0) 1) s4.2.2.1))))))))))))))
                      (some (.inl ((iadd .i64 s4.1 1), (s4.2.1, (s4.2.2.1, (s4.2.2.2.1, (s4.2.2.2.2.1, (s4.2.2.2.2.2.1, s4.2.2.2.2.2.2)))))))))
                    (some (.inl ((iadd .i64 s4.1 1), (s4.2.1, (s4.2.2.1, (s4.2.2.2.1, (s4.2.2.2.2.1, (s4.2.2.2.2.2.1, s4.2.2.2.2.2.2)))))))))))))
            (Option.map Sum.inr
              (Option.bind (F_s_l06Full s4.2.2.2.2.2.2) fun r6 =>
              (cond (ine r6 0)
                (some ((0, ([] : (List Int))), r6))
                (some (s4.2.2.2.2.2.2, 0)))))))
          (0, (x.2, (x.1.1, (x.1.2, (0, (([] : (List Int)), r3))))))))))

noncomputable def F_l_toCarryEvent (x : (Int × (Int × Int))) : Option (Int × (Int × Int)) :=
  (some (x.1, x.2))

noncomputable def F_l_toCarryEventS (x : (List (Int × (Int × Int)))) : Option (List (Int × (Int × Int))) :=
  (chk (ieq (n2i (xlen x)) (n2i (xlen x)))
  (chk (okMake (n2i (xlen x)) 24)
  (iter (σ := (Int × ((List (Int × (Int × Int))) × (List (Int × (Int × Int)))))) (fun s1 =>
    (cond (ilt s1.1 (n2i (xlen s1.2.1)))
      (chk (okIx s1.1 (xlen s1.2.1))
      (Option.bind (F_l_toCarryEvent ((xget s1.2.1 (i2n s1.1) (0, (0, 0))).1, (xget s1.2.1 (i2n s1.1) (0, (0, 0))).2)) fun r3 =>
        (chk (okIx s1.1 (xlen s1.2.2))
        (some (.inl ((iadd .i64 s1.1 1), (s1.2.1, (xset s1.2.2 (i2n s1.1) (r3.1, r3.2)))))))))
      (some (.inr s1.2.2))))
    (0, (x, (xrep (i2n (n2i (xlen x))) (0, (0, 0))))))))

noncomputable def F_i_sole (x : (Int × (List Int))) : Option ((Int × (List Int)) × Int) :=
  (Option.bind (F_i_ValidRegister x) fun r1 =>
    (cond (bnot r1)
      (some ((0, ([] : (List Int))), 5))
      (some (x, 0))))

noncomputable def F_i_ReplayEvents (x : ((Int × (List Int)) × (List (Int × (Int × Int))))) : Option ((Int × (List Int)) × Int) :=
  (Option.bind (F_i_ValidRegister x.1) fun r1 =>
    (cond (bnot r1)
      (some ((0, ([] : (List Int))), 1))
      (iter (σ := (Int × (Int × ((List (Int × (Int × Int))) × (Int × ((List Int) × (Int × (List Int)))))))) (fun s3 =>
        (cond (ilt s3.2.1 s3.1)
          (chk (okIx s3.2.1 (xlen s3.2.2.1))
          (Option.bind (F_i_between ((xget s3.2.2.1 (i2n s3.2.1) (0, (0, 0))).1, (1, 3))) fun r5 =>
            (cond (bnot r5)
              (some (.inr ((0, ([] : (List Int))), 2)))
              (Option.bind (F_i_Register_width (s3.2.2.2.1, s3.2.2.2.2.1)) fun r7 =>
                (Option.bind (F_i_between ((xget s3.2.2.1 (i2n s3.2.1) (0, (0, 0))).2.1, (0, (isub .i64 r7 1)))) fun r8 =>
                  (cond (bnot r8)
                    (some (.inr ((0, ([] : (List Int))), 2)))
                    (Option.bind (F_i_between ((xget s3.2.2.1 (i2n s3.2.1) (0, (0, 0))).2.2, (0, (isub .i64 s3.2.2.2.1 1)))) fun r10 =>
                      (cond (bnot r10)
                        (some (.inr ((0, ([] : (List Int))), 2)))
                        (some (.inl (s3.1, ((iadd .i64 s3.2.1 1), (s3.2.2.1, (s3.2.2.2.1, (s3.2.2.2.2.1, s3.2.2.2.2.2)))))))))))))))
          (Option.map Sum.inr
            (Option.bind (F_i_copyNumbers s3.2.2.2.2.1) fun r5 =>
            (iter (σ := (Int × (Int × (Int × ((List Int) × (Int × ((List Int) × (Int × ((List Int) × (List (Int × (Int × Int)))))))))))) (fun s6 =>
              (cond (ilt s6.2.1 s6.1)
                (chk (okIx s6.2.1 (xlen s6.2.2.2.2.2.2.2.2))
                (cond (ieq (xget s6.2.2.2.2.2.2.2.2 (i2n s6.2.1) (0, (0, 0))).1 2)
                  (some (.inl (s6.1, ((iadd .i64 s6.2.1 1), (s6.2.2.1, (s6.2.2.2.1, (s6.2.2.2.2.1, (s6.2.2.2.2.2.1, (s6.2.2.2.2.2.2.1, s6.2.2.2.2.2.2.2)))))))))
                  (cond (ieq (xget s6.2.2.2.2.2.2.2.2 (i2n s6.2.1) (0, (0, 0))).1 3)
                    (cond (ilt (iadd .i64 (xget s6.2.2.2.2.2.2.2.2 (i2n s6.2.1) (0, (0, 0))).2.1 1) (n2i (xlen s6.2.2.2.2.2.2.2.1)))
                      (chk (okIx (iadd .i64 (xget s6.2.2.2.2.2.2.2.2 (i2n s6.2.1) (0, (0, 0))).2.1 1) (xlen s6.2.2.2.2.2.2.2.1))
                      (chk (okDiv s6.2.2.1)
                      (chk (okIx (iadd .i64 (xget s6.2.2.2.2.2.2.2.2 (i2n s6.2.1) (0, (0, 0))).2.1 1) (xlen s6.2.2.2.2.2.2.2.1))
                      (some (.inl (s6.1, ((iadd .i64 s6.2.1 1), (s6.2.2.1, (s6.2.2.2.1, (s6.2.2.2.2.1, (s6.2.2.2.2.2.1, (s6.2.2.2.2.2.2.1, ((xset s6.2.2.2.2.2.2.2.1 (i2n (iadd .i64 (xget s6.2.2.2.2.2.2.2.2 (i2n s6.2.1) (0, (0, 0))).2.1 1)) (irem (iadd .i64 (xget s6.2.2.2.2.2.2.2.1 (i2n (iadd .i64 (xget s6.2.2.2.2.2.2.2.2 (i2n s6.2.1) (0, (0, 0))).2.1 1)) 0) 1) s6.2.2.1)), s6.2.2.2.2.2.2.2.2)))))))))))))
                      (some (.inl (s6.1, ((iadd .i64 s6.2.1 1), (s6.2.2.1, (s6.2.2.2.1, (s6.2.2.2.2.1, (s6.2.2.2.2.2.1, (s6.2.2.2.2.2.2.1, s6.2.2.2.2.2.2.2))))))))))
                    (cond (ilt (xget s6.2.2.2.2.2.2.2.2 (i2n s6.2.1) (0, (0, 0))).2.1 (n2i (xlen s6.2.2.2.2.2.2.2.1)))
                      (chk (okIx (xget s6.2.2.2.2.2.2.2.2 (i2n s6.2.1) (0, (0, 0))).2.1 (xlen s6.2.2.2.2.2.2.2.1))
                      (chk (okDiv s6.2.2.1)
                      (chk (okIx (xget s6.2.2.2.2.2.2.2.2 (i2n s6.2.1) (0, (0, 0))).2.1 (xlen s6.2.2.2.2.2.2.2.1))
                      (some (.inl (s6.1, ((iadd .i64 s6.2.1 1), (s6.2.2.1, (s6.2.2.2.1, (s6.2.2.2.2.1, (s6.2.2.2.2.2.1, (s6.2.2.2.2.2.2.1, ((xset s6.2.2.2.2.2.2.2.1 (i2n (xget s6.2.2.2.2.2.2.2.2 (i2n s6.2.1) (0, (0, 0))).2.1) (irem (iadd .i64 (xget s6.2.2.2.2.2.2.2.1 (i2n (xget s6.2.2.2.2.2.2.2.2 (i2n s6.2.1) (0, (0, 0))).2.1) 0) (xget s6.2.2.2.2.2.2.2.2 (i2n s6.2.1) (0, (0, 0))).2.2) s6.2.2.1)), s6.2.2.2.2.2.2.2.2)))))))))))))
                      (some (.inl (s6.1, ((iadd .i64 s6.2.1 1), (s6.2.2.1, (s6.2.2.2.1, (s6.2.2.2.2.1, (s6.2.2.2.2.2.1, (s6.2.2.2.2.2.2.1, s6.2.2.2.2.2.2.2)))))))))))))
                (Option.map Sum.inr
                  (Option.bind (F_i_sole (s6.2.2.2.2.2.2.1, s6.2.2.2.2.2.2.2.1)) fun r8 =>
                  (some (r8.1, r8.2))))))
              ((n2i (xlen s3.2.2.1)), (0, (s3.2.2.2.1, (s3.2.2.2.2.1, (s3.2.2.2.2.2.1, (s3.2.2.2.2.2.2, (s3.2.2.2.1, (r5, s3.2.2.1)))))))))))))
        ((n2i (xlen x.2)), (0, (x.2, (x.1.1, (x.1.2, (0, ([] : (List Int)))))))))))

noncomputable def F_l_eqCarryEvent (x : ((Int × (Int × Int)) × (Int × (Int × Int)))) : Option Bool :=
  (cond (ine x.1.1 x.2.1)
    (some false)
    (cond (ine x.1.2.1 x.2.2.1)
      (some false)
      (cond (ine x.1.2.2 x.2.2.2)
        (some false)
        (some true))))

noncomputable def F_l_eqCarryEventS (x : ((List (Int × (Int × Int))) × (List (Int × (Int × Int))))) : Option Bool :=
  (cond (ine (n2i (xlen x.1)) (n2i (xlen x.2)))
    (some false)
    (iter (σ := (Int × ((List (Int × (Int × Int))) × (List (Int × (Int × Int)))))) (fun s2 =>
      (cond (ilt s2.1 (n2i (xlen s2.2.1)))
        (chk (okIx s2.1 (xlen s2.2.1))
        (chk (okIx s2.1 (xlen s2.2.2))
        (Option.bind (F_l_eqCarryEvent (((xget s2.2.1 (i2n s2.1) (0, (0, 0))).1, (xget s2.2.1 (i2n s2.1) (0, (0, 0))).2), ((xget s2.2.2 (i2n s2.1) (0, (0, 0))).1, (xget s2.2.2 (i2n s2.1) (0, (0, 0))).2))) fun r4 =>
          (cond (bnot r4)
            (some (.inr false))
            (some (.inl ((iadd .i64 s2.1 1), s2.2)))))))
        (some (.inr true))))
      (0, x)))

noncomputable def F_l_markCarryEventS (x : ((List (Int × (Int × Int))) × Int)) : Option (Int × (List (Int × (Int × Int)))) :=
  (iter (σ := (Int × (Int × (List (Int × (Int × Int)))))) (fun s1 =>
    (cond (ilt s1.2.1 (n2i (xlen s1.2.2)))
      (chk (okIx s1.2.1 (xlen s1.2.2))
      (chk (okIx s1.2.1 (xlen (xset s1.2.2 (i2n s1.2.1) (s1.1, (xget s1.2.2 (i2n s1.2.1) (0, (0, 0))).2))))
      (chk (okIx s1.2.1 (xlen (xset (xset s1.2.2 (i2n s1.2.1) (s1.1, (xget s1.2.2 (i2n s1.2.1) (0, (0, 0))).2)) (i2n s1.2.1) ((xget (xset s1.2.2 (i2n s1.2.1) (s1.1, (xget s1.2.2 (i2n s1.2.1) (0, (0, 0))).2)) (i2n s1.2.1) (0, (0, 0))).1, ((iadd .i64 s1.1 1), (xget (xset s1.2.2 (i2n s1.2.1) (s1.1, (xget s1.2.2 (i2n s1.2.1) (0, (0, 0))).2)) (i2n s1.2.1) (0, (0, 0))).2.2)))))
      (some (.inl ((iadd .i64 (iadd .i64 (iadd .i64 s1.1 1) 1) 1), ((iadd .i64 s1.2.1 1), (xset (xset (xset s1.2.2 (i2n s1.2.1) (s1.1, (xget s1.2.2 (i2n s1.2.1) (0, (0, 0))).2)) (i2n s1.2.1) ((xget (xset s1.2.2 (i2n s1.2.1) (s1.1, (xget s1.2.2 (i2n s1.2.1) (0, (0, 0))).2)) (i2n s1.2.1) (0, (0, 0))).1, ((iadd .i64 s1.1 1), (xget (xset s1.2.2 (i2n s1.2.1) (s1.1, (xget s1.2.2 (i2n s1.2.1) (0, (0, 0))).2)) (i2n s1.2.1) (0, (0, 0))).2.2))) (i2n s1.2.1) ((xget (xset (xset s1.2.2 (i2n s1.2.1) (s1.1, (xget s1.2.2 (i2n s1.2.1) (0, (0, 0))).2)) (i2n s1.2.1) ((xget (xset s1.2.2 (i2n s1.2.1) (s1.1, (xget s1.2.2 (i2n s1.2.1) (0, (0, 0))).2)) (i2n s1.2.1) (0, (0, 0))).1, ((iadd .i64 s1.1 1), (xget (xset s1.2.2 (i2n s1.2.1) (s1.1, (xget s1.2.2 (i2n s1.2.1) (0, (0, 0))).2)) (i2n s1.2.1) (0, (0, 0))).2.2))) (i2n s1.2.1) (0, (0, 0))).1, ((xget (xset (xset s1.2.2 (i2n s1.2.1) (s1.1, (xget s1.2.2 (i2n s1.2.1) (0, (0, 0))).2)) (i2n s1.2.1) ((xget (xset s1.2.2 (i2n s1.2.1) (s1.1, (xget s1.2.2 (i2n s1.2.1) (0, (0, 0))).2)) (i2n s1.2.1) (0, (0, 0))).1, ((iadd .i64 s1.1 1), (xget (xset s1.2.2 (i2n s1.2.1) (s1.1, (xget s1.2.2 (i2n s1.2.1) (0, (0, 0))).2)) (i2n s1.2.1) (0, (0, 0))).2.2))) (i2n s1.2.1) (0, (0, 0))).2.1, (iadd .i64 (iadd .i64 s1.1 1) 1)))))))))))
      (some (.inr (s1.1, s1.2.2)))))
    (x.2, (0, x.1)))

noncomputable def F_l_FnExactReplayEvents (x : ((Int × (List Int)) × (List (Int × (Int × Int))))) : Option Bool :=
  (Option.bind (F_l_szRegister (x.1, 1048576)) fun r1 =>
    (cond (ilt r1 0)
      (some true)
      (Option.bind (F_l_szCarryEventS (x.2, r1)) fun r3 =>
        (cond (ilt r3 0)
          (some true)
          (Option.bind (F_l_toRegister x.1) fun r5 =>
            (Option.bind (F_l_toCarryEventS x.2) fun r6 =>
              (Option.bind (F_s_ReplayEvents (r5, r6)) fun r7 =>
                (Option.bind (F_l_toRegister x.1) fun r8 =>
                  (Option.bind (F_l_toCarryEventS x.2) fun r9 =>
                    (Option.bind (F_i_ReplayEvents (r8, r9)) fun r10 =>
                      (Option.bind (F_l_eqRegister (r10.1, r7.1)) fun r11 =>
                        (cond (bnot r11)
                          (some false)
                          (cond (ine r10.2 r7.2)
                            (some false)
                            (Option.bind (F_l_toRegister x.1) fun r14 =>
                              (Option.bind (F_l_eqRegister (r8, r14)) fun r15 =>
                                (cond (bnot r15)
                                  (some false)
                                  (Option.bind (F_l_toCarryEventS x.2) fun r17 =>
                                    (Option.bind (F_l_eqCarryEventS (r9, r17)) fun r18 =>
                                      (cond (bnot r18)
                                        (some false)
                                        (Option.bind (F_l_markRegister (r8, 1)) fun r20 =>
                                          (Option.bind (F_l_markCarryEventS (r9, r20.1)) fun r21 =>
                                            (cond (ilt r21.1 0)
                                              (some false)
                                              (Option.bind (F_l_eqRegister (r10.1, r7.1)) fun r23 =>
                                                (cond (bnot r23)
                                                  (some false)
                                                  (cond (ine r10.2 r7.2)
                                                    (some false)
                                                    (Option.bind (F_l_markRegister (r10.1, 1)) fun r26 =>
                                                      (Option.bind (F_l_heldRegister ((r10.1.1, r26.2.2), 1)) fun r27 =>
                                                        (cond (ilt r27 0)
                                                          (some false)
                                                          (cond (ine r27 r26.1)
                                                            (some false)
                                                            (Option.bind (F_l_toRegister x.1) fun r30 =>
                                                              (Option.bind (F_l_toCarryEventS x.2) fun r31 =>
                                                                (Option.bind (F_i_ReplayEvents (r30, r31)) fun r32 =>
                                                                  (Option.bind (F_l_eqRegister (r32.1, r7.1)) fun r33 =>
                                                                    (cond (bnot r33)
                                                                      (some false)
                                                                      (cond (ine r32.2 r7.2)
                                                                        (some false)
                                                                        (Option.bind (F_l_heldRegister ((r10.1.1, r26.2.2), 1)) fun r36 =>
                                                                          (cond (ilt r36 0)
                                                                            (some false)
                                                                            (cond (ine r36 r26.1)
                                                                              (some false)
                                                                              (some true)))))))))))))))))))))))))))))))))))))))

noncomputable def F_s_l06Last (x : (List Bool)) : Option Int :=
  (chk (okIx (isub .i64 (n2i (xlen x)) 1) (xlen x))
  (cond (xget x (i2n (isub .i64 (n2i (xlen x)) 1)) false)
    (some 1)
    (some 0)))

noncomputable def F_s_PushLevers (x : ((Int × (List Int)) × (List Bool))) : Option ((Int × (List Int)) × (Int × Int)) :=
  (Option.bind (F_s_l02Ok x.1) fun r1 =>
    (cond (bnot r1)
      (some ((0, ([] : (List Int))), (0, 1)))
      (cond (ine (n2i (xlen x.2)) (n2i (xlen x.1.2)))
        (some ((0, ([] : (List Int))), (0, 8)))
        (Option.bind (F_s_l06New x.1) fun r4 =>
          (chk (okRoom (xlen ([] : (List Bool))) (xlen x.2) 1)
          (Option.bind (F_s_l06S_second (r4.1, ((xapp ([] : (List Bool)) x.2), r4.2.2))) fun r5 =>
            (Option.bind (F_s_l06Full r5.1) fun r6 =>
              (cond (ine r6 0)
                (some ((0, ([] : (List Int))), (0, r6)))
                (Option.bind (F_s_l06Last r5.2.1) fun r8 =>
                  (some (r5.1, (r8, 0))))))))))))

noncomputable def F_l_toBoolS (x : (List Bool)) : Option (List Bool) :=
  (chk (ieq (n2i (xlen x)) (n2i (xlen x)))
  (chk (okMake (n2i (xlen x)) 1)
  (iter (σ := (Int × ((List Bool) × (List Bool)))) (fun s1 =>
    (cond (ilt s1.1 (n2i (xlen s1.2.1)))
      (chk (okIx s1.1 (xlen s1.2.1))
      (chk (okIx s1.1 (xlen s1.2.2))
      (some (.inl ((iadd .i64 s1.1 1), (s1.2.1, (xset s1.2.2 (i2n s1.1) (xget s1.2.1 (i2n s1.1) false))))))))
      (some (.inr s1.2.2))))
    (0, (x, (xrep (i2n (n2i (xlen x))) false))))))

noncomputable def F_i_lastCarry (x : (List Bool)) : Option Int :=
  (chk (okIx (isub .i64 (n2i (xlen x)) 1) (xlen x))
  (cond (xget x (i2n (isub .i64 (n2i (xlen x)) 1)) false)
    (some 1)
    (some 0)))

noncomputable def F_i_PushLevers (x : ((Int × (List Int)) × (List Bool))) : Option ((Int × (List Int)) × (Int × Int)) :=
  (Option.bind (F_i_ValidRegister x.1) fun r1 =>
    (cond (bnot r1)
      (some ((0, ([] : (List Int))), (0, 1)))
      (Option.bind (F_i_Register_width x.1) fun r3 =>
        (cond (ine (n2i (xlen x.2)) r3)
          (some ((0, ([] : (List Int))), (0, 8)))
          (Option.bind (F_i_pushed (x.1, x.2)) fun r5 =>
            (Option.bind (F_i_lastCarry r5.2) fun r6 =>
              (Option.bind (F_i_whole (r5.1, r6)) fun r7 =>
                (some (r7.1, r7.2)))))))))

noncomputable def F_l_FnExactPushLevers (x : ((Int × (List Int)) × (List Bool))) : Option Bool :=
  (cond (igt (n2i (xlen x.2)) 1048576)
    (some true)
    (Option.bind (F_l_szRegister (x.1, 1048576)) fun r2 =>
      (cond (ilt r2 0)
        (some true)
        (Option.bind (F_l_toRegister x.1) fun r4 =>
          (Option.bind (F_l_toBoolS x.2) fun r5 =>
            (Option.bind (F_s_PushLevers (r4, r5)) fun r6 =>
              (Option.bind (F_l_toRegister x.1) fun r7 =>
                (Option.bind (F_l_toBoolS x.2) fun r8 =>
                  (Option.bind (F_i_PushLevers (r7, r8)) fun r9 =>
                    (Option.bind (F_l_eqRegister (r9.1, r6.1)) fun r10 =>
                      (cond (bnot r10)
                        (some false)
                        (cond (ine r9.2.1 r6.2.1)
                          (some false)
                          (cond (ine r9.2.2 r6.2.2)
                            (some false)
                            (Option.bind (F_l_toRegister x.1) fun r14 =>
                              (Option.bind (F_l_eqRegister (r7, r14)) fun r15 =>
                                (cond (bnot r15)
                                  (some false)
                                  (Option.bind (F_l_toBoolS x.2) fun r17 =>
                                    (Option.bind (F_l_eqBoolS (r8, r17)) fun r18 =>
                                      (cond (bnot r18)
                                        (some false)
                                        (Option.bind (F_l_markRegister (r7, 1)) fun r20 =>
                                          (Option.bind (F_l_markBoolS (r8, r20.1)) fun r21 =>
                                            (cond (ilt r21.1 0)
                                              (some false)
                                              (Option.bind (F_l_eqRegister (r9.1, r6.1)) fun r23 =>
                                                (cond (bnot r23)
                                                  (some false)
                                                  (cond (ine r9.2.1 r6.2.1)
                                                    (some false)
                                                    (cond (ine r9.2.2 r6.2.2)
                                                      (some false)
                                                      (Option.bind (F_l_markRegister (r9.1, 1)) fun r27 =>
                                                        (Option.bind (F_l_heldRegister ((r9.1.1, r27.2.2), 1)) fun r28 =>
                                                          (cond (ilt r28 0)
                                                            (some false)
                                                            (cond (ine r28 r27.1)
                                                              (some false)
                                                              (Option.bind (F_l_toRegister x.1) fun r31 =>
                                                                (Option.bind (F_l_toBoolS x.2) fun r32 =>
                                                                  (Option.bind (F_i_PushLevers (r31, r32)) fun r33 =>
                                                                    (Option.bind (F_l_eqRegister (r33.1, r6.1)) fun r34 =>
                                                                      (cond (bnot r34)
                                                                        (some false)
                                                                        (cond (ine r33.2.1 r6.2.1)
                                                                          (some false)
                                                                          (cond (ine r33.2.2 r6.2.2)
                                                                            (some false)
                                                                            (Option.bind (F_l_heldRegister ((r9.1.1, r27.2.2), 1)) fun r38 =>
                                                                              (cond (ilt r38 0)
                                                                                (some false)
                                                                                (cond (ine r38 r27.1)
                                                                                  (some false)
                                                                                  (some true)))))))))))))))))))))))))))))))))))))))))

noncomputable def F_s_AddSlowly (x : ((Int × (List Int)) × (Int × (List Int)))) : Option ((Int × (List Int)) × (Int × Int)) :=
  (Option.bind (F_s_l02Two (x.1, x.2)) fun r1 =>
    (cond (ine r1 0)
      (some ((0, ([] : (List Int))), (0, r1)))
      (Option.bind (F_s_l06Run (x.1, x.2)) fun r3 =>
        (Option.bind (F_s_l06Full r3.1) fun r4 =>
          (cond (ine r4 0)
            (some ((0, ([] : (List Int))), (0, r4)))
            (Option.bind (F_s_l06Last r3.2.1) fun r6 =>
              (some (r3.1, (r6, 0)))))))))

noncomputable def F_i_AddSlowly (x : ((Int × (List Int)) × (Int × (List Int)))) : Option ((Int × (List Int)) × (Int × Int)) :=
  (Option.bind (F_i_pairCode (x.1, x.2)) fun r1 =>
    (cond (ine r1 0)
      (some ((0, ([] : (List Int))), (0, r1)))
      (Option.bind (F_i_turned (x.1, x.2)) fun r3 =>
        (Option.bind (F_i_pushed (r3.1, r3.2)) fun r4 =>
          (Option.bind (F_i_lastCarry r4.2) fun r5 =>
            (Option.bind (F_i_whole (r4.1, r5)) fun r6 =>
              (some (r6.1, r6.2))))))))

noncomputable def F_l_FnExactAddSlowly (x : ((Int × (List Int)) × (Int × (List Int)))) : Option Bool :=
  (Option.bind (F_l_szRegister (x.1, 1048576)) fun r1 =>
    (cond (ilt r1 0)
      (some true)
      (Option.bind (F_l_szRegister (x.2, r1)) fun r3 =>
        (cond (ilt r3 0)
          (some true)
          (Option.bind (F_l_toRegister x.1) fun r5 =>
            (Option.bind (F_l_toRegister x.2) fun r6 =>
              (Option.bind (F_s_AddSlowly (r5, r6)) fun r7 =>
                (Option.bind (F_l_toRegister x.1) fun r8 =>
                  (Option.bind (F_l_toRegister x.2) fun r9 =>
                    (Option.bind (F_i_AddSlowly (r8, r9)) fun r10 =>
                      (Option.bind (F_l_eqRegister (r10.1, r7.1)) fun r11 =>
                        (cond (bnot r11)
                          (some false)
                          (cond (ine r10.2.1 r7.2.1)
                            (some false)
                            (cond (ine r10.2.2 r7.2.2)
                              (some false)
                              (Option.bind (F_l_toRegister x.1) fun r15 =>
                                (Option.bind (F_l_eqRegister (r8, r15)) fun r16 =>
                                  (cond (bnot r16)
                                    (some false)
                                    (Option.bind (F_l_toRegister x.2) fun r18 =>
                                      (Option.bind (F_l_eqRegister (r9, r18)) fun r19 =>
                                        (cond (bnot r19)
                                          (some false)
                                          (Option.bind (F_l_markRegister (r8, 1)) fun r21 =>
                                            (Option.bind (F_l_markRegister (r9, r21.1)) fun r22 =>
                                              (cond (ilt r22.1 0)
                                                (some false)
                                                (Option.bind (F_l_eqRegister (r10.1, r7.1)) fun r24 =>
                                                  (cond (bnot r24)
                                                    (some false)
                                                    (cond (ine r10.2.1 r7.2.1)
                                                      (some false)
                                                      (cond (ine r10.2.2 r7.2.2)
                                                        (some false)
                                                        (Option.bind (F_l_markRegister (r10.1, 1)) fun r28 =>
                                                          (Option.bind (F_l_heldRegister ((r10.1.1, r28.2.2), 1)) fun r29 =>
                                                            (cond (ilt r29 0)
                                                              (some false)
                                                              (cond (ine r29 r28.1)
                                                                (some false)
                                                                (Option.bind (F_l_toRegister x.1) fun r32 =>
                                                                  (Option.bind (F_l_toRegister x.2) fun r33 =>
                                                                    (Option.bind (F_i_AddSlowly (r32, r33)) fun r34 =>
                                                                      (Option.bind (F_l_eqRegister (r34.1, r7.1)) fun r35 =>
                                                                        (cond (bnot r35)
                                                                          (some false)
                                                                          (cond (ine r34.2.1 r7.2.1)
                                                                            (some false)
                                                                            (cond (ine r34.2.2 r7.2.2)
                                                                              (some false)
                                                                              (Option.bind (F_l_heldRegister ((r10.1.1, r28.2.2), 1)) fun r39 =>
                                                                                (cond (ilt r39 0)
                                                                                  (some false)
                                                                                  (cond (ine r39 r28.1)
                                                                                    (some false)
                                                                                    (some true))))))))))))))))))))))))))))))))))))))))))

noncomputable def F_s_l07Size (x : Int) : Option Bool :=
  (Option.bind (F_s_l00In (x, (1, 16))) fun r1 =>
    (some r1))

noncomputable def F_s_l07Code (x : ((Int × (List Int)) × ((Int × (List Int)) × Int))) : Option Int :=
  (Option.bind (F_s_l02Two (x.1, x.2.1)) fun r1 =>
    (cond (ieq r1 0)
      (Option.bind (F_s_l07Size x.2.2) fun r3 =>
        (cond (bnot r3)
          (some 2)
          (some r1)))
      (some r1)))

noncomputable def F_s_JoinSignals (x : ((Bool × Bool) × (Bool × Bool))) : Option (Bool × Bool) :=
  (cond x.2.1
    (cond x.2.2
      (some (true, x.1.2))
      (some (true, false)))
    (cond x.2.2
      (cond x.2.2
        (some x.1)
        (some (x.1.1, false)))
      (cond x.2.2
        (some (false, x.1.2))
        (some (false, false)))))

noncomputable def F_s_l07Groups (x : ((List (Bool × Bool)) × Int)) : Option (List (Bool × Bool)) :=
  (iter (σ := (Int × (Int × ((List (Bool × Bool)) × (List (Bool × Bool)))))) (fun s1 =>
    (cond (ilt s1.2.1 (n2i (xlen s1.2.2.1)))
      (chk (okDiv s1.1)
      (cond (ieq (irem s1.2.1 s1.1) 0)
        (chk (okIx s1.2.1 (xlen s1.2.2.1))
        (chk (okRoom (xlen s1.2.2.2) (xlen ((xget s1.2.2.1 (i2n s1.2.1) (false, false)) :: ([] : (List (Bool × Bool))))) 2)
        (some (.inl (s1.1, ((iadd .i64 s1.2.1 1), (s1.2.2.1, (xapp s1.2.2.2 ((xget s1.2.2.1 (i2n s1.2.1) (false, false)) :: ([] : (List (Bool × Bool))))))))))))
        (chk (okIx (isub .i64 (n2i (xlen s1.2.2.2)) 1) (xlen s1.2.2.2))
        (chk (okIx s1.2.1 (xlen s1.2.2.1))
        (Option.bind (F_s_JoinSignals ((xget s1.2.2.2 (i2n (isub .i64 (n2i (xlen s1.2.2.2)) 1)) (false, false)), (xget s1.2.2.1 (i2n s1.2.1) (false, false)))) fun r4 =>
          (chk (okIx (isub .i64 (n2i (xlen s1.2.2.2)) 1) (xlen s1.2.2.2))
          (some (.inl (s1.1, ((iadd .i64 s1.2.1 1), (s1.2.2.1, (xset s1.2.2.2 (i2n (isub .i64 (n2i (xlen s1.2.2.2)) 1)) r4))))))))))))
      (some (.inr s1.2.2.2))))
    (x.2, (0, (x.1, ([] : (List (Bool × Bool)))))))

noncomputable def F_s_l07Through (x : ((Bool × Bool) × Int)) : Option Int :=
  (cond x.1.1
    (some 1)
    (cond x.1.2
      (cond (ieq x.2 1)
        (some 1)
        (some 0))
      (some 0)))

noncomputable def F_s_l07Carries (x : ((Int × (List Int)) × ((Int × (List Int)) × Int))) : Option (List Int) :=
  (Option.bind (F_s_l07Of (x.1, x.2.1)) fun r1 =>
    (Option.bind (F_s_l07Groups (r1, x.2.2)) fun r2 =>
      (iter (σ := (Int × (Int × ((List (Bool × Bool)) × ((List (Bool × Bool)) × (List Int)))))) (fun s3 =>
        (cond (ilt s3.2.1 (n2i (xlen s3.2.2.2.1)))
          (chk (okIx s3.2.1 (xlen s3.2.2.2.1))
          (chk (okIx s3.2.1 (xlen s3.2.2.2.2))
          (Option.bind (F_s_l07Through ((xget s3.2.2.2.1 (i2n s3.2.1) (false, false)), (xget s3.2.2.2.2 (i2n s3.2.1) 0))) fun r5 =>
            (chk (okRoom (xlen s3.2.2.2.2) (xlen (r5 :: ([] : (List Int)))) 8)
            (some (.inl (s3.1, ((iadd .i64 s3.2.1 1), (s3.2.2.1, (s3.2.2.2.1, (xapp s3.2.2.2.2 (r5 :: ([] : (List Int))))))))))))))
          (Option.map Sum.inr
            (iter (σ := (Int × (Int × ((List (Bool × Bool)) × ((List (Bool × Bool)) × ((List Int) × (List Int))))))) (fun s5 =>
            (cond (ilt s5.2.1 (n2i (xlen s5.2.2.1)))
              (chk (okDiv s5.1)
              (chk (okIx (iquo .i64 s5.2.1 s5.1) (xlen s5.2.2.2.2.1))
              (chk (okDiv s5.1)
              (iter (σ := (Int × (Int × (Int × (Int × ((List (Bool × Bool)) × ((List (Bool × Bool)) × ((List Int) × (List Int))))))))) (fun s7 =>
                (cond (ilt s7.2.2.2.1 s7.2.1)
                  (chk (okIx s7.2.2.2.1 (xlen s7.2.2.2.2.1))
                  (Option.bind (F_s_l07Through ((xget s7.2.2.2.2.1 (i2n s7.2.2.2.1) (false, false)), s7.2.2.1)) fun r9 =>
                    (some (.inl (s7.1, (s7.2.1, (r9, ((iadd .i64 s7.2.2.2.1 1), (s7.2.2.2.2.1, (s7.2.2.2.2.2.1, s7.2.2.2.2.2.2))))))))))
                  (Option.map Sum.inr
                    (chk (okRoom (xlen s7.2.2.2.2.2.2.2) (xlen (s7.2.2.1 :: ([] : (List Int)))) 8)
                  (some (.inl (s7.1, ((iadd .i64 s7.2.1 1), (s7.2.2.2.2.1, (s7.2.2.2.2.2.1, (s7.2.2.2.2.2.2.1, (xapp s7.2.2.2.2.2.2.2 (s7.2.2.1 :: ([] : (List Int)))))))))))))))
                (s5.1, (s5.2.1, ((xget s5.2.2.2.2.1 (i2n (iquo .i64 s5.2.1 s5.1)) 0), ((imul .i64 (iquo .i64 s5.2.1 s5.1) s5.1), (s5.2.2.1, (s5.2.2.2.1, s5.2.2.2.2))))))))))
              (Option.map Sum.inr
                (chk (okIx (n2i (xlen s5.2.2.2.1)) (xlen s5.2.2.2.2.1))
              (chk (okRoom (xlen s5.2.2.2.2.2) (xlen ((xget s5.2.2.2.2.1 (i2n (n2i (xlen s5.2.2.2.1))) 0) :: ([] : (List Int)))) 8)
              (some (xapp s5.2.2.2.2.2 ((xget s5.2.2.2.2.1 (i2n (n2i (xlen s5.2.2.2.1))) 0) :: ([] : (List Int))))))))))
            (s3.1, (0, (s3.2.2.1, (s3.2.2.2.1, (s3.2.2.2.2, ([] : (List Int)))))))))))
        (x.2.2, (0, (r1, (r2, (0 :: ([] : (List Int))))))))))

noncomputable def F_s_CarriesAhead (x : ((Int × (List Int)) × ((Int × (List Int)) × Int))) : Option ((List Int) × Int) :=
  (Option.bind (F_s_l07Code (x.1, (x.2.1, x.2.2))) fun r1 =>
    (cond (ine r1 0)
      (some (([] : (List Int)), r1))
      (Option.bind (F_s_l07Carries (x.1, (x.2.1, x.2.2))) fun r3 =>
        (some (r3, 0)))))

noncomputable def F_i_aheadCode (x : ((Int × (List Int)) × ((Int × (List Int)) × Int))) : Option Int :=
  (Option.bind (F_i_pairCode (x.1, x.2.1)) fun r1 =>
    (cond (ine r1 0)
      (some r1)
      (Option.bind (F_i_isRegisterWidth x.2.2) fun r3 =>
        (cond (bnot r3)
          (some 2)
          (some 0)))))

noncomputable def F_i_JoinSignals (x : ((Bool × Bool) × (Bool × Bool))) : Option (Bool × Bool) :=
  (cond x.2.1
    (cond x.1.2
      (some (true, x.2.2))
      (some (true, false)))
    (cond x.2.2
      (cond x.1.2
        (some (x.1.1, x.2.2))
        (some (x.1.1, false)))
      (cond x.1.2
        (some (false, x.2.2))
        (some (false, false)))))

noncomputable def F_i_joined (x : (List (Bool × Bool))) : Option (Bool × Bool) :=
  (chk (okIx 0 (xlen x))
  (chk (okTo 1 (xlen x))
  (iter (σ := (Int × (Int × (Bool × (Bool × (Bool × (Bool × (List (Bool × Bool))))))))) (fun s1 =>
    (cond (ilt s1.2.1 s1.1)
      (chk (okIx s1.2.1 (xlen s1.2.2.2.2.2.2))
      (Option.bind (F_i_JoinSignals ((s1.2.2.2.2.1, s1.2.2.2.2.2.1), (xget s1.2.2.2.2.2.2 (i2n s1.2.1) (false, false)))) fun r3 =>
        (some (.inl (s1.1, ((iadd .i64 s1.2.1 1), (s1.2.2.1, (s1.2.2.2.1, (r3.1, (r3.2, s1.2.2.2.2.2.2))))))))))
      (some (.inr (s1.2.2.2.2.1, s1.2.2.2.2.2.1)))))
    ((n2i (xlen (xsub x (i2n 1) (xlen x)))), (0, (false, (false, ((xget x (i2n 0) (false, false)).1, ((xget x (i2n 0) (false, false)).2, (xsub x (i2n 1) (xlen x)))))))))))

noncomputable def F_i_groups (x : ((List (Bool × Bool)) × Int)) : Option (List (Bool × Bool)) :=
  (iter (σ := (Int × (Int × ((List (Bool × Bool)) × (List (Bool × Bool)))))) (fun s1 =>
    (cond (ilt s1.2.1 (n2i (xlen s1.2.2.1)))
      (chk (okTo (imin (iadd .i64 s1.2.1 s1.1) (n2i (xlen s1.2.2.1))) (xlen s1.2.2.1))
      (chk (okTo s1.2.1 (i2n (imin (iadd .i64 s1.2.1 s1.1) (n2i (xlen s1.2.2.1)))))
      (Option.bind (F_i_joined (xsub s1.2.2.1 (i2n s1.2.1) (i2n (imin (iadd .i64 s1.2.1 s1.1) (n2i (xlen s1.2.2.1)))))) fun r3 =>
        (chk (okRoom (xlen s1.2.2.2) (xlen (r3 :: ([] : (List (Bool × Bool))))) 2)
        (some (.inl (s1.1, ((iadd .i64 s1.2.1 s1.1), (s1.2.2.1, (xapp s1.2.2.2 (r3 :: ([] : (List (Bool × Bool))))))))))))))
      (some (.inr s1.2.2.2))))
    (x.2, (0, (x.1, ([] : (List (Bool × Bool)))))))

noncomputable def F_i_Signal_through (x : ((Bool × Bool) × Int)) : Option Int :=
  (cond x.1.1
    (some 1)
    (cond x.1.2
      (cond (ieq x.2 1)
        (some 1)
        (some 0))
      (some 0)))

noncomputable def F_i_carriesAhead (x : ((List (Bool × Bool)) × Int)) : Option (List Int) :=
  (Option.bind (F_i_groups x) fun r1 =>
    (iter (σ := (Int × (Int × (Int × ((List (Bool × Bool)) × ((List Int) × (List (Bool × Bool)))))))) (fun s2 =>
      (cond (ilt s2.2.2.1 s2.2.1)
        (chk (okIx s2.2.2.1 (xlen s2.2.2.2.2.2))
        (chk (okIx s2.2.2.1 (xlen s2.2.2.2.2.1))
        (Option.bind (F_i_Signal_through ((xget s2.2.2.2.2.2 (i2n s2.2.2.1) (false, false)), (xget s2.2.2.2.2.1 (i2n s2.2.2.1) 0))) fun r4 =>
          (chk (okRoom (xlen s2.2.2.2.2.1) (xlen (r4 :: ([] : (List Int)))) 8)
          (some (.inl (s2.1, (s2.2.1, ((iadd .i64 s2.2.2.1 1), (s2.2.2.2.1, ((xapp s2.2.2.2.2.1 (r4 :: ([] : (List Int)))), s2.2.2.2.2.2)))))))))))
        (Option.map Sum.inr
          (iter (σ := (Int × (Int × (Int × (Int × ((List Int) × ((List Int) × (List (Bool × Bool))))))))) (fun s4 =>
          (cond (ilt s4.2.2.2.1 s4.2.2.1)
            (chk (okIx s4.2.2.2.1 (xlen s4.2.2.2.2.2.2))
            (chk (okDiv s4.1)
            (cond (ieq (irem s4.2.2.2.1 s4.1) 0)
              (chk (okDiv s4.1)
              (chk (okIx (iquo .i64 s4.2.2.2.1 s4.1) (xlen s4.2.2.2.2.1))
              (chk (okRoom (xlen s4.2.2.2.2.2.1) (xlen ((xget s4.2.2.2.2.1 (i2n (iquo .i64 s4.2.2.2.1 s4.1)) 0) :: ([] : (List Int)))) 8)
              (Option.bind (F_i_Signal_through ((xget s4.2.2.2.2.2.2 (i2n s4.2.2.2.1) (false, false)), (xget s4.2.2.2.2.1 (i2n (iquo .i64 s4.2.2.2.1 s4.1)) 0))) fun r7 =>
                (some (.inl (s4.1, (r7, (s4.2.2.1, ((iadd .i64 s4.2.2.2.1 1), (s4.2.2.2.2.1, ((xapp s4.2.2.2.2.2.1 ((xget s4.2.2.2.2.1 (i2n (iquo .i64 s4.2.2.2.1 s4.1)) 0) :: ([] : (List Int)))), s4.2.2.2.2.2.2))))))))))))
              (chk (okRoom (xlen s4.2.2.2.2.2.1) (xlen (s4.2.1 :: ([] : (List Int)))) 8)
              (Option.bind (F_i_Signal_through ((xget s4.2.2.2.2.2.2 (i2n s4.2.2.2.1) (false, false)), s4.2.1)) fun r7 =>
                (some (.inl (s4.1, (r7, (s4.2.2.1, ((iadd .i64 s4.2.2.2.1 1), (s4.2.2.2.2.1, ((xapp s4.2.2.2.2.2.1 (s4.2.1 :: ([] : (List Int)))), s4.2.2.2.2.2.2)))))))))))))
            (Option.map Sum.inr
              (chk (okIx (isub .i64 (n2i (xlen s4.2.2.2.2.1)) 1) (xlen s4.2.2.2.2.1))
            (chk (okRoom (xlen s4.2.2.2.2.2.1) (xlen ((xget s4.2.2.2.2.1 (i2n (isub .i64 (n2i (xlen s4.2.2.2.2.1)) 1)) 0) :: ([] : (List Int)))) 8)
            (some (xapp s4.2.2.2.2.2.1 ((xget s4.2.2.2.2.1 (i2n (isub .i64 (n2i (xlen s4.2.2.2.2.1)) 1)) 0) :: ([] : (List Int))))))))))
          (s2.1, (0, ((n2i (xlen s2.2.2.2.1)), (0, (s2.2.2.2.2.1, (([] : (List Int)), s2.2.2.2.1))))))))))
      (x.2, ((n2i (xlen r1)), (0, (x.1, ((0 :: ([] : (List Int))), r1)))))))

noncomputable def F_i_CarriesAhead (x : ((Int × (List Int)) × ((Int × (List Int)) × Int))) : Option ((List Int) × Int) :=
  (Option.bind (F_i_aheadCode (x.1, (x.2.1, x.2.2))) fun r1 =>
    (cond (ine r1 0)
      (some (([] : (List Int)), r1))
      (Option.bind (F_i_signals (x.1, x.2.1)) fun r3 =>
        (Option.bind (F_i_carriesAhead (r3, x.2.2)) fun r4 =>
          (some (r4, 0))))))

noncomputable def F_l_FnExactCarriesAhead (x : ((Int × (List Int)) × ((Int × (List Int)) × Int))) : Option Bool :=
  (Option.bind (F_l_szRegister (x.1, 1048576)) fun r1 =>
    (cond (ilt r1 0)
      (some true)
      (Option.bind (F_l_szRegister (x.2.1, r1)) fun r3 =>
        (cond (ilt r3 0)
          (some true)
          (Option.bind (F_l_toRegister x.1) fun r5 =>
            (Option.bind (F_l_toRegister x.2.1) fun r6 =>
              (Option.bind (F_s_CarriesAhead (r5, (r6, x.2.2))) fun r7 =>
                (Option.bind (F_l_toRegister x.1) fun r8 =>
                  (Option.bind (F_l_toRegister x.2.1) fun r9 =>
                    (Option.bind (F_i_CarriesAhead (r8, (r9, x.2.2))) fun r10 =>
                      (Option.bind (F_l_eqInt64S (r10.1, r7.1)) fun r11 =>
                        (cond (bnot r11)
                          (some false)
                          (cond (ine r10.2 r7.2)
                            (some false)
                            (Option.bind (F_l_toRegister x.1) fun r14 =>
                              (Option.bind (F_l_eqRegister (r8, r14)) fun r15 =>
                                (cond (bnot r15)
                                  (some false)
                                  (Option.bind (F_l_toRegister x.2.1) fun r17 =>
                                    (Option.bind (F_l_eqRegister (r9, r17)) fun r18 =>
                                      (cond (bnot r18)
                                        (some false)
                                        (Option.bind (F_l_markRegister (r8, 1)) fun r20 =>
                                          (Option.bind (F_l_markRegister (r9, r20.1)) fun r21 =>
                                            (cond (ilt r21.1 0)
                                              (some false)
                                              (Option.bind (F_l_eqInt64S (r10.1, r7.1)) fun r23 =>
                                                (cond (bnot r23)
                                                  (some false)
                                                  (cond (ine r10.2 r7.2)
                                                    (some false)
                                                    (Option.bind (F_l_markInt64S (r10.1, 1)) fun r26 =>
                                                      (Option.bind (F_l_heldInt64S (r26.2, 1)) fun r27 =>
                                                        (cond (ilt r27 0)
                                                          (some false)
                                                          (cond (ine r27 r26.1)
                                                            (some false)
                                                            (Option.bind (F_l_toRegister x.1) fun r30 =>
                                                              (Option.bind (F_l_toRegister x.2.1) fun r31 =>
                                                                (Option.bind (F_i_CarriesAhead (r30, (r31, x.2.2))) fun r32 =>
                                                                  (Option.bind (F_l_eqInt64S (r32.1, r7.1)) fun r33 =>
                                                                    (cond (bnot r33)
                                                                      (some false)
                                                                      (cond (ine r32.2 r7.2)
                                                                        (some false)
                                                                        (Option.bind (F_l_heldInt64S (r26.2, 1)) fun r36 =>
                                                                          (cond (ilt r36 0)
                                                                            (some false)
                                                                            (cond (ine r36 r26.1)
                                                                              (some false)
                                                                              (some true)))))))))))))))))))))))))))))))))))))))

noncomputable def F_s_EventsOf (x : ((Int × (List Int)) × (Int × (List Int)))) : Option ((List (Int × (Int × Int))) × Int) :=
  (Option.bind (F_s_l02Two (x.1, x.2)) fun r1 =>
    (cond (ine r1 0)
      (some (([] : (List (Int × (Int × Int)))), r1))
      (Option.bind (F_s_l06Run (x.1, x.2)) fun r3 =>
        (some (r3.2.2.2, 0)))))

noncomputable def F_i_EventsOf (x : ((Int × (List Int)) × (Int × (List Int)))) : Option ((List (Int × (Int × Int))) × Int) :=
  (Option.bind (F_i_pairCode (x.1, x.2)) fun r1 =>
    (cond (ine r1 0)
      (some (([] : (List (Int × (Int × Int)))), r1))
      (Option.bind (F_i_turned (x.1, x.2)) fun r3 =>
        (Option.bind (F_i_pushed (r3.1, r3.2)) fun r4 =>
          (iter (σ := (Int × (Int × ((List Bool) × ((List Bool) × ((List (Int × (Int × Int))) × (List Int))))))) (fun s5 =>
            (cond (ilt s5.2.1 s5.1)
              (chk (okIx s5.2.1 (xlen s5.2.2.2.2.2))
              (cond (igt (xget s5.2.2.2.2.2 (i2n s5.2.1) 0) 0)
                (chk (okRoom (xlen s5.2.2.2.2.1) (xlen ((1, (s5.2.1, (xget s5.2.2.2.2.2 (i2n s5.2.1) 0))) :: ([] : (List (Int × (Int × Int)))))) 24)
                (chk (okIx s5.2.1 (xlen s5.2.2.1))
                (cond (xget s5.2.2.1 (i2n s5.2.1) false)
                  (chk (okRoom (xlen (xapp s5.2.2.2.2.1 ((1, (s5.2.1, (xget s5.2.2.2.2.2 (i2n s5.2.1) 0))) :: ([] : (List (Int × (Int × Int))))))) (xlen ((2, (s5.2.1, 0)) :: ([] : (List (Int × (Int × Int)))))) 24)
                  (some (.inl (s5.1, ((iadd .i64 s5.2.1 1), (s5.2.2.1, (s5.2.2.2.1, ((xapp (xapp s5.2.2.2.2.1 ((1, (s5.2.1, (xget s5.2.2.2.2.2 (i2n s5.2.1) 0))) :: ([] : (List (Int × (Int × Int)))))) ((2, (s5.2.1, 0)) :: ([] : (List (Int × (Int × Int)))))), s5.2.2.2.2.2))))))))
                  (some (.inl (s5.1, ((iadd .i64 s5.2.1 1), (s5.2.2.1, (s5.2.2.2.1, ((xapp s5.2.2.2.2.1 ((1, (s5.2.1, (xget s5.2.2.2.2.2 (i2n s5.2.1) 0))) :: ([] : (List (Int × (Int × Int)))))), s5.2.2.2.2.2))))))))))
                (chk (okIx s5.2.1 (xlen s5.2.2.1))
                (cond (xget s5.2.2.1 (i2n s5.2.1) false)
                  (chk (okRoom (xlen s5.2.2.2.2.1) (xlen ((2, (s5.2.1, 0)) :: ([] : (List (Int × (Int × Int)))))) 24)
                  (some (.inl (s5.1, ((iadd .i64 s5.2.1 1), (s5.2.2.1, (s5.2.2.2.1, ((xapp s5.2.2.2.2.1 ((2, (s5.2.1, 0)) :: ([] : (List (Int × (Int × Int)))))), s5.2.2.2.2.2))))))))
                  (some (.inl (s5.1, ((iadd .i64 s5.2.1 1), (s5.2.2.1, (s5.2.2.2.1, s5.2.2.2.2))))))))))
              (Option.map Sum.inr
                (iter (σ := (Int × (Int × ((List Bool) × ((List Bool) × (List (Int × (Int × Int)))))))) (fun s7 =>
                (cond (ilt s7.2.1 s7.1)
                  (chk (okIx s7.2.1 (xlen s7.2.2.2.1))
                  (cond (bnot (xget s7.2.2.2.1 (i2n s7.2.1) false))
                    (some (.inl (s7.1, ((iadd .i64 s7.2.1 1), (s7.2.2.1, s7.2.2.2)))))
                    (chk (okRoom (xlen s7.2.2.2.2) (xlen ((3, (s7.2.1, 0)) :: ([] : (List (Int × (Int × Int)))))) 24)
                    (cond (ilt (iadd .i64 s7.2.1 1) (n2i (xlen s7.2.2.2.1)))
                      (chk (okIx (iadd .i64 s7.2.1 1) (xlen s7.2.2.2.1))
                      (cond (xget s7.2.2.2.1 (i2n (iadd .i64 s7.2.1 1)) false)
                        (chk (okIx (iadd .i64 s7.2.1 1) (xlen s7.2.2.1))
                        (cond (bnot (xget s7.2.2.1 (i2n (iadd .i64 s7.2.1 1)) false))
                          (chk (okRoom (xlen (xapp s7.2.2.2.2 ((3, (s7.2.1, 0)) :: ([] : (List (Int × (Int × Int))))))) (xlen ((2, ((iadd .i64 s7.2.1 1), 0)) :: ([] : (List (Int × (Int × Int)))))) 24)
                          (some (.inl (s7.1, ((iadd .i64 s7.2.1 1), (s7.2.2.1, (s7.2.2.2.1, (xapp (xapp s7.2.2.2.2 ((3, (s7.2.1, 0)) :: ([] : (List (Int × (Int × Int)))))) ((2, ((iadd .i64 s7.2.1 1), 0)) :: ([] : (List (Int × (Int × Int)))))))))))))
                          (some (.inl (s7.1, ((iadd .i64 s7.2.1 1), (s7.2.2.1, (s7.2.2.2.1, (xapp s7.2.2.2.2 ((3, (s7.2.1, 0)) :: ([] : (List (Int × (Int × Int))))))))))))))
                        (some (.inl (s7.1, ((iadd .i64 s7.2.1 1), (s7.2.2.1, (s7.2.2.2.1, (xapp s7.2.2.2.2 ((3, (s7.2.1, 0)) :: ([] : (List (Int × (Int × Int))))))))))))))
                      (some (.inl (s7.1, ((iadd .i64 s7.2.1 1), (s7.2.2.1, (s7.2.2.2.1, (xapp s7.2.2.2.2 ((3, (s7.2.1, 0)) :: ([] : (List (Int × (Int × Int))))))))))))))))
                  (some (.inr (s7.2.2.2.2, 0)))))
                ((n2i (xlen s5.2.2.2.1)), (0, (s5.2.2.1, (s5.2.2.2.1, s5.2.2.2.2.1))))))))
            ((n2i (xlen x.2.2)), (0, (r3.2, (r4.2, (([] : (List (Int × (Int × Int)))), x.2.2))))))))))

noncomputable def F_l_heldCarryEventS (x : ((List (Int × (Int × Int))) × Int)) : Option Int :=
  (iter (σ := (Int × (Int × (List (Int × (Int × Int)))))) (fun s1 =>
    (cond (ilt s1.2.1 (n2i (xlen s1.2.2)))
      (chk (okIx s1.2.1 (xlen s1.2.2))
      (cond (ine (xget s1.2.2 (i2n s1.2.1) (0, (0, 0))).1 s1.1)
        (some (.inr (-1)))
        (chk (okIx s1.2.1 (xlen s1.2.2))
        (cond (ine (xget s1.2.2 (i2n s1.2.1) (0, (0, 0))).2.1 (iadd .i64 s1.1 1))
          (some (.inr (-1)))
          (chk (okIx s1.2.1 (xlen s1.2.2))
          (cond (ine (xget s1.2.2 (i2n s1.2.1) (0, (0, 0))).2.2 (iadd .i64 (iadd .i64 s1.1 1) 1))
            (some (.inr (-1)))
            (some (.inl ((iadd .i64 (iadd .i64 (iadd .i64 s1.1 1) 1) 1), ((iadd .i64 s1.2.1 1), s1.2.2))))))))))
      (some (.inr s1.1))))
    (x.2, (0, x.1)))

noncomputable def F_l_FnExactEventsOf (x : ((Int × (List Int)) × (Int × (List Int)))) : Option Bool :=
  (Option.bind (F_l_szRegister (x.1, 1048576)) fun r1 =>
    (cond (ilt r1 0)
      (some true)
      (Option.bind (F_l_szRegister (x.2, r1)) fun r3 =>
        (cond (ilt r3 0)
          (some true)
          (Option.bind (F_l_toRegister x.1) fun r5 =>
            (Option.bind (F_l_toRegister x.2) fun r6 =>
              (Option.bind (F_s_EventsOf (r5, r6)) fun r7 =>
                (Option.bind (F_l_toRegister x.1) fun r8 =>
                  (Option.bind (F_l_toRegister x.2) fun r9 =>
                    (Option.bind (F_i_EventsOf (r8, r9)) fun r10 =>
                      (Option.bind (F_l_eqCarryEventS (r10.1, r7.1)) fun r11 =>
                        (cond (bnot r11)
                          (some false)
                          (cond (ine r10.2 r7.2)
                            (some false)
                            (Option.bind (F_l_toRegister x.1) fun r14 =>
                              (Option.bind (F_l_eqRegister (r8, r14)) fun r15 =>
                                (cond (bnot r15)
                                  (some false)
                                  (Option.bind (F_l_toRegister x.2) fun r17 =>
                                    (Option.bind (F_l_eqRegister (r9, r17)) fun r18 =>
                                      (cond (bnot r18)
                                        (some false)
                                        (Option.bind (F_l_markRegister (r8, 1)) fun r20 =>
                                          (Option.bind (F_l_markRegister (r9, r20.1)) fun r21 =>
                                            (cond (ilt r21.1 0)
                                              (some false)
                                              (Option.bind (F_l_eqCarryEventS (r10.1, r7.1)) fun r23 =>
                                                (cond (bnot r23)
                                                  (some false)
                                                  (cond (ine r10.2 r7.2)
                                                    (some false)
                                                    (Option.bind (F_l_markCarryEventS (r10.1, 1)) fun r26 =>
                                                      (Option.bind (F_l_heldCarryEventS (r26.2, 1)) fun r27 =>
                                                        (cond (ilt r27 0)
                                                          (some false)
                                                          (cond (ine r27 r26.1)
                                                            (some false)
                                                            (Option.bind (F_l_toRegister x.1) fun r30 =>
                                                              (Option.bind (F_l_toRegister x.2) fun r31 =>
                                                                (Option.bind (F_i_EventsOf (r30, r31)) fun r32 =>
                                                                  (Option.bind (F_l_eqCarryEventS (r32.1, r7.1)) fun r33 =>
                                                                    (cond (bnot r33)
                                                                      (some false)
                                                                      (cond (ine r32.2 r7.2)
                                                                        (some false)
                                                                        (Option.bind (F_l_heldCarryEventS (r26.2, 1)) fun r36 =>
                                                                          (cond (ilt r36 0)
                                                                            (some false)
                                                                            (cond (ine r36 r26.1)
                                                                              (some false)
                                                                              (some true)))))))))))))))))))))))))))))))))))))))

noncomputable def F_s_AddAhead (x : ((Int × (List Int)) × ((Int × (List Int)) × Int))) : Option ((Int × (List Int)) × (Int × Int)) :=
  (Option.bind (F_s_l07Code (x.1, (x.2.1, x.2.2))) fun r1 =>
    (cond (ine r1 0)
      (some ((0, ([] : (List Int))), (0, r1)))
      (Option.bind (F_s_l07Carries (x.1, (x.2.1, x.2.2))) fun r3 =>
        (iter (σ := (Int × (Int × ((List Int) × (Int × ((List Int) × (Int × ((List Int) × ((List Int) × (Int × (List Int))))))))))) (fun s4 =>
          (cond (ilt s4.1 (n2i (xlen s4.2.2.1)))
            (chk (okIx s4.1 (xlen s4.2.2.1))
            (chk (okIx s4.1 (xlen s4.2.2.2.2.1))
            (chk (okIx s4.1 (xlen s4.2.2.2.2.2.2.2.1))
            (chk (okDiv s4.2.1)
            (chk (okRoom (xlen s4.2.2.2.2.2.2.2.2.2) (xlen ((irem (iadd .i64 (iadd .i64 (xget s4.2.2.1 (i2n s4.1) 0) (xget s4.2.2.2.2.1 (i2n s4.1) 0)) (xget s4.2.2.2.2.2.2.2.1 (i2n s4.1) 0)) s4.2.1) :: ([] : (List Int)))) 8)
            (some (.inl ((iadd .i64 s4.1 1), (s4.2.1, (s4.2.2.1, (s4.2.2.2.1, (s4.2.2.2.2.1, (s4.2.2.2.2.2.1, (s4.2.2.2.2.2.2.1, (s4.2.2.2.2.2.2.2.1, (s4.2.2.2.2.2.2.2.2.1, (xapp s4.2.2.2.2.2.2.2.2.2 ((irem (iadd .i64 (iadd .i64 (xget s4.2.2.1 (i2n s4.1) 0) (xget s4.2.2.2.2.1 (i2n s4.1) 0)) (xget s4.2.2.2.2.2.2.2.1 (i2n s4.1) 0)) s4.2.1) :: ([] : (List Int))))))))))))))))))))
            (Option.map Sum.inr
              (Option.bind (F_s_l02Ok s4.2.2.2.2.2.2.2.2) fun r6 =>
              (cond (bnot r6)
                (some ((0, ([] : (List Int))), (0, 5)))
                (chk (okIx (n2i (xlen s4.2.2.1)) (xlen s4.2.2.2.2.2.2.2.1))
                (some (s4.2.2.2.2.2.2.2.2, ((xget s4.2.2.2.2.2.2.2.1 (i2n (n2i (xlen s4.2.2.1))) 0), 0)))))))))
          (0, (x.1.1, (x.1.2, (x.2.1.1, (x.2.1.2, (0, (([] : (List Int)), (r3, (x.1.1, ([] : (List Int)))))))))))))))

noncomputable def F_i_AddAhead (x : ((Int × (List Int)) × ((Int × (List Int)) × Int))) : Option ((Int × (List Int)) × (Int × Int)) :=
  (Option.bind (F_i_aheadCode (x.1, (x.2.1, x.2.2))) fun r1 =>
    (cond (ine r1 0)
      (some ((0, ([] : (List Int))), (0, r1)))
      (Option.bind (F_i_signals (x.1, x.2.1)) fun r3 =>
        (Option.bind (F_i_carriesAhead (r3, x.2.2)) fun r4 =>
          (iter (σ := (Int × (Int × (Int × ((List Int) × (Int × ((List Int) × (Int × ((List Int) × ((List Int) × (Int × (List Int)))))))))))) (fun s5 =>
            (cond (ilt s5.2.1 s5.1)
              (chk (okIx s5.2.1 (xlen s5.2.2.2.1))
              (chk (okIx s5.2.1 (xlen s5.2.2.2.2.2.1))
              (chk (okIx s5.2.1 (xlen s5.2.2.2.2.2.2.2.2.1))
              (chk (okDiv s5.2.2.1)
              (chk (okRoom (xlen s5.2.2.2.2.2.2.2.2.2.2) (xlen ((irem (iadd .i64 (iadd .i64 (xget s5.2.2.2.1 (i2n s5.2.1) 0) (xget s5.2.2.2.2.2.1 (i2n s5.2.1) 0)) (xget s5.2.2.2.2.2.2.2.2.1 (i2n s5.2.1) 0)) s5.2.2.1) :: ([] : (List Int)))) 8)
              (some (.inl (s5.1, ((iadd .i64 s5.2.1 1), (s5.2.2.1, (s5.2.2.2.1, (s5.2.2.2.2.1, (s5.2.2.2.2.2.1, (s5.2.2.2.2.2.2.1, (s5.2.2.2.2.2.2.2.1, (s5.2.2.2.2.2.2.2.2.1, (s5.2.2.2.2.2.2.2.2.2.1, (xapp s5.2.2.2.2.2.2.2.2.2.2 ((irem (iadd .i64 (iadd .i64 (xget s5.2.2.2.1 (i2n s5.2.1) 0) (xget s5.2.2.2.2.2.1 (i2n s5.2.1) 0)) (xget s5.2.2.2.2.2.2.2.2.1 (i2n s5.2.1) 0)) s5.2.2.1) :: ([] : (List Int)))))))))))))))))))))
              (Option.map Sum.inr
                (Option.bind (F_i_Register_width (s5.2.2.1, s5.2.2.2.1)) fun r7 =>
                (chk (okIx r7 (xlen s5.2.2.2.2.2.2.2.2.1))
                (Option.bind (F_i_whole (s5.2.2.2.2.2.2.2.2.2, (xget s5.2.2.2.2.2.2.2.2.1 (i2n r7) 0))) fun r8 =>
                  (some (r8.1, r8.2))))))))
            ((n2i (xlen x.1.2)), (0, (x.1.1, (x.1.2, (x.2.1.1, (x.2.1.2, (0, (([] : (List Int)), (r4, (x.1.1, ([] : (List Int)))))))))))))))))

noncomputable def F_l_FnExactAddAhead (x : ((Int × (List Int)) × ((Int × (List Int)) × Int))) : Option Bool :=
  (Option.bind (F_l_szRegister (x.1, 1048576)) fun r1 =>
    (cond (ilt r1 0)
      (some true)
      (Option.bind (F_l_szRegister (x.2.1, r1)) fun r3 =>
        (cond (ilt r3 0)
          (some true)
          (Option.bind (F_l_toRegister x.1) fun r5 =>
            (Option.bind (F_l_toRegister x.2.1) fun r6 =>
              (Option.bind (F_s_AddAhead (r5, (r6, x.2.2))) fun r7 =>
                (Option.bind (F_l_toRegister x.1) fun r8 =>
                  (Option.bind (F_l_toRegister x.2.1) fun r9 =>
                    (Option.bind (F_i_AddAhead (r8, (r9, x.2.2))) fun r10 =>
                      (Option.bind (F_l_eqRegister (r10.1, r7.1)) fun r11 =>
                        (cond (bnot r11)
                          (some false)
                          (cond (ine r10.2.1 r7.2.1)
                            (some false)
                            (cond (ine r10.2.2 r7.2.2)
                              (some false)
                              (Option.bind (F_l_toRegister x.1) fun r15 =>
                                (Option.bind (F_l_eqRegister (r8, r15)) fun r16 =>
                                  (cond (bnot r16)
                                    (some false)
                                    (Option.bind (F_l_toRegister x.2.1) fun r18 =>
                                      (Option.bind (F_l_eqRegister (r9, r18)) fun r19 =>
                                        (cond (bnot r19)
                                          (some false)
                                          (Option.bind (F_l_markRegister (r8, 1)) fun r21 =>
                                            (Option.bind (F_l_markRegister (r9, r21.1)) fun r22 =>
                                              (cond (ilt r22.1 0)
                                                (some false)
                                                (Option.bind (F_l_eqRegister (r10.1, r7.1)) fun r24 =>
                                                  (cond (bnot r24)
                                                    (some false)
                                                    (cond (ine r10.2.1 r7.2.1)
                                                      (some false)
                                                      (cond (ine r10.2.2 r7.2.2)
                                                        (some false)
                                                        (Option.bind (F_l_markRegister (r10.1, 1)) fun r28 =>
                                                          (Option.bind (F_l_heldRegister ((r10.1.1, r28.2.2), 1)) fun r29 =>
                                                            (cond (ilt r29 0)
                                                              (some false)
                                                              (cond (ine r29 r28.1)
                                                                (some false)
                                                                (Option.bind (F_l_toRegister x.1) fun r32 =>
                                                                  (Option.bind (F_l_toRegister x.2.1) fun r33 =>
                                                                    (Option.bind (F_i_AddAhead (r32, (r33, x.2.2))) fun r34 =>
                                                                      (Option.bind (F_l_eqRegister (r34.1, r7.1)) fun r35 =>
                                                                        (cond (bnot r35)
                                                                          (some false)
                                                                          (cond (ine r34.2.1 r7.2.1)
                                                                            (some false)
                                                                            (cond (ine r34.2.2 r7.2.2)
                                                                              (some false)
                                                                              (Option.bind (F_l_heldRegister ((r10.1.1, r28.2.2), 1)) fun r39 =>
                                                                                (cond (ilt r39 0)
                                                                                  (some false)
                                                                                  (cond (ine r39 r28.1)
                                                                                    (some false)
                                                                                    (some true))))))))))))))))))))))))))))))))))))))))))

end Go.Prg
