/- What the functions of the program compute: printed by a program off the engine. Conditions: none. -/
import Derived.Test.YthbmjicbhmiofaaEng25
namespace Go.Prg
open Go.Eng
set_option linter.all false

noncomputable def F_l_szInt64S (x : ((List Int) × Int)) : Option Int :=
  (cond (ilt (isub .i64 x.2 (n2i (xlen x.1))) 0)
    (some (-1))
    (some (isub .i64 x.2 (n2i (xlen x.1)))))

noncomputable def F_l_szEngine (x : ((Int × (List Int)) × Int)) : Option Int :=
  (Option.bind (F_l_szInt64S (x.1.2, x.2)) fun r1 =>
    (cond (ilt r1 0)
      (some (-1))
      (some r1)))

noncomputable def F_s_l00In (x : (Int × (Int × Int))) : Option Bool :=
  (cond (ige x.1 x.2.1)
    (some (ile x.1 x.2.2))
    (some false))

noncomputable def F_s_l00Min (x : (Int × Int)) : Option Int :=
  (cond (ilt x.1 x.2)
    (some x.1)
    (some x.2))

noncomputable def F_s_l10Power (x : (Int × Int)) : Option Int :=
  (iter (σ := (Int × (Int × Int))) (fun s1 =>
    (cond (igt s1.2.1 0)
      (Option.bind (F_s_l00Min (1000000000002, (imul .i64 s1.2.2 s1.1))) fun r3 =>
        (some (.inl (s1.1, ((isub .i64 s1.2.1 1), r3)))))
      (some (.inr s1.2.2))))
    (x.1, (x.2, 1)))

noncomputable def F_s_l16Width (x : Int) : Option Bool :=
  (Option.bind (F_s_l00In (x, (1, 12))) fun r1 =>
    (some r1))

noncomputable def F_s_l16Ok (x : (Int × (List Int))) : Option Bool :=
  (Option.bind (F_s_l16Width x.1) fun r1 =>
    (cond (bnot r1)
      (some false)
      (Option.bind (F_s_l00In ((n2i (xlen x.2)), (1, 9))) fun r3 =>
        (cond (bnot r3)
          (some false)
          (iter (σ := (Int × (List (Int × (List Int))))) (fun s5 =>
            (cond (ilt s5.1 (n2i (xlen (xget s5.2 0 (0, ([] : (List Int)))).2)))
              (chk (okIx s5.1 (xlen (xget s5.2 0 (0, ([] : (List Int)))).2))
              (Option.bind (F_s_l10Power (10, (xget s5.2 0 (0, ([] : (List Int)))).1)) fun r7 =>
                (Option.bind (F_s_l00In ((xget (xget s5.2 0 (0, ([] : (List Int)))).2 (i2n s5.1) 0), (0, (isub .i64 r7 1)))) fun r8 =>
                  (cond (bnot r8)
                    (some (.inr false))
                    (some (.inl ((iadd .i64 s5.1 1), s5.2)))))))
              (some (.inr true))))
            (0, (x :: ([] : (List (Int × (List Int)))))))))))

noncomputable def F_s_l16Code (x : ((Int × (List Int)) × Int)) : Option Int :=
  (Option.bind (F_s_l16Ok x.1) fun r1 =>
    (cond (bnot r1)
      (some 1)
      (Option.bind (F_s_l00In (x.2, (0, 40))) fun r3 =>
        (cond (bnot r3)
          (some 2)
          (some 0)))))

noncomputable def F_s_l00Own (x : (List Int)) : Option (List Int) :=
  (chk (okRoom (xlen ([] : (List Int))) (xlen x) 8)
  (some (xapp ([] : (List Int)) x)))

noncomputable def F_s_l16Own (x : (Int × (List Int))) : Option (Int × (List Int)) :=
  (Option.bind (F_s_l00Own x.2) fun r1 =>
    (some (x.1, r1)))

noncomputable def F_s_l16Mod (x : (Int × Int)) : Option Int :=
  (Option.bind (F_s_l10Power (10, x.1)) fun r1 =>
    (chk (okDiv r1)
    (chk (okDiv r1)
    (some (irem (iadd .i64 (irem x.2 r1) r1) r1)))))

noncomputable def F_s_l16Add (x : ((Int × (List Int)) × Int)) : Option (Int × (List Int)) :=
  (chk (okIx (isub .i64 x.2 1) (xlen x.1.2))
  (chk (okIx x.2 (xlen x.1.2))
  (Option.bind (F_s_l16Mod (x.1.1, (iadd .i64 (xget x.1.2 (i2n (isub .i64 x.2 1)) 0) (xget x.1.2 (i2n x.2) 0)))) fun r1 =>
    (chk (okIx (isub .i64 x.2 1) (xlen x.1.2))
    (some (x.1.1, (xset x.1.2 (i2n (isub .i64 x.2 1)) r1)))))))

noncomputable def F_s_l16Cycle (x : (Int × (List Int))) : Option (Int × (List Int)) :=
  (Option.bind (F_s_l16Own x) fun r1 =>
    (iter (σ := (Int × (Int × ((List Int) × (Int × (List Int)))))) (fun s2 =>
      (cond (ilt s2.1 (n2i (xlen s2.2.2.2.2)))
        (Option.bind (F_s_l16Add (s2.2.2.2, s2.1)) fun r4 =>
          (some (.inl ((iadd .i64 s2.1 1), (s2.2.1, (s2.2.2.1, r4))))))
        (some (.inr s2.2.2.2))))
      (1, (0, (([] : (List Int)), r1)))))

noncomputable def F_s_RunEngine (x : ((Int × (List Int)) × Int)) : Option ((List Int) × Int) :=
  (Option.bind (F_s_l16Code (x.1, x.2)) fun r1 =>
    (cond (ine r1 0)
      (some (([] : (List Int)), r1))
      (iter (σ := (Int × (Int × (Int × ((List Int) × (List Int)))))) (fun s3 =>
        (cond (ilt s3.2.1 s3.1)
          (chk (okIx 0 (xlen s3.2.2.2.1))
          (chk (okRoom (xlen s3.2.2.2.2) (xlen ((xget s3.2.2.2.1 (i2n 0) 0) :: ([] : (List Int)))) 8)
          (Option.bind (F_s_l16Cycle (s3.2.2.1, s3.2.2.2.1)) fun r5 =>
            (some (.inl (s3.1, ((iadd .i64 s3.2.1 1), (r5.1, (r5.2, (xapp s3.2.2.2.2 ((xget s3.2.2.2.1 (i2n 0) 0) :: ([] : (List Int)))))))))))))
          (some (.inr (s3.2.2.2.2, 0)))))
        (x.2, (0, (x.1.1, (x.1.2, ([] : (List Int)))))))))

noncomputable def F_l_toInt64S (x : (List Int)) : Option (List Int) :=
  (chk (ieq (n2i (xlen x)) (n2i (xlen x)))
  (chk (okMake (n2i (xlen x)) 8)
  (iter (σ := (Int × ((List Int) × (List Int)))) (fun s1 =>
    (cond (ilt s1.1 (n2i (xlen s1.2.1)))
      (chk (okIx s1.1 (xlen s1.2.1))
      (chk (okIx s1.1 (xlen s1.2.2))
      (some (.inl ((iadd .i64 s1.1 1), (s1.2.1, (xset s1.2.2 (i2n s1.1) (xget s1.2.1 (i2n s1.1) 0))))))))
      (some (.inr s1.2.2))))
    (0, (x, (xrep (i2n (n2i (xlen x))) 0))))))

noncomputable def F_l_toEngine (x : (Int × (List Int))) : Option (Int × (List Int)) :=
  (Option.bind (F_l_toInt64S x.2) fun r1 =>
    (some (x.1, r1)))

noncomputable def F_i_between (x : (Int × (Int × Int))) : Option Bool :=
  (cond (ige x.1 x.2.1)
    (some (ile x.1 x.2.2))
    (some false))

noncomputable def F_i_modulus (x : Int) : Option Int :=
  (iter (σ := (Int × (Int × Int))) (fun s1 =>
    (cond (ilt s1.2.2 s1.2.1)
      (some (.inl ((imul .i64 s1.1 10), (s1.2.1, (iadd .i64 s1.2.2 1)))))
      (some (.inr s1.1))))
    (1, (x, 0)))

noncomputable def F_i_isEngineWidth (x : Int) : Option Bool :=
  (Option.bind (F_i_between (x, (1, 12))) fun r1 =>
    (some r1))

noncomputable def F_i_ValidEngine (x : (Int × (List Int))) : Option Bool :=
  (Option.bind (F_i_isEngineWidth x.1) fun r1 =>
    (cond (bnot r1)
      (some false)
      (Option.bind (F_i_between ((n2i (xlen x.2)), (1, 9))) fun r3 =>
        (cond (bnot r3)
          (some false)
          (iter (σ := (Int × (Int × (Int × (List Int))))) (fun s5 =>
            (cond (ilt s5.2.1 s5.1)
              (chk (okIx s5.2.1 (xlen s5.2.2.2))
              (Option.bind (F_i_modulus s5.2.2.1) fun r7 =>
                (Option.bind (F_i_between ((xget s5.2.2.2 (i2n s5.2.1) 0), (0, (isub .i64 r7 1)))) fun r8 =>
                  (cond (bnot r8)
                    (some (.inr false))
                    (some (.inl (s5.1, ((iadd .i64 s5.2.1 1), s5.2.2))))))))
              (some (.inr true))))
            ((n2i (xlen x.2)), (0, x)))))))

noncomputable def F_i_cyclesCode (x : ((Int × (List Int)) × Int)) : Option Int :=
  (Option.bind (F_i_ValidEngine x.1) fun r1 =>
    (cond (bnot r1)
      (some 1)
      (Option.bind (F_i_between (x.2, (0, 40))) fun r3 =>
        (cond (bnot r3)
          (some 2)
          (some 0)))))

noncomputable def F_i_copyNumbers (x : (List Int)) : Option (List Int) :=
  (chk (okRoom (xlen ([] : (List Int))) (xlen x) 8)
  (some (xapp ([] : (List Int)) x)))

noncomputable def F_i_Engine_copied (x : (Int × (List Int))) : Option (Int × (List Int)) :=
  (Option.bind (F_i_copyNumbers x.2) fun r1 =>
    (some (x.1, r1)))

noncomputable def F_i_Engine_cycled (x : (Int × (List Int))) : Option (Int × (List Int)) :=
  (Option.bind (F_i_Engine_copied x) fun r1 =>
    (iter (σ := (Int × (Int × ((List Int) × (Int × ((List Int) × (Int × (List Int)))))))) (fun s2 =>
      (cond (ilt (iadd .i64 s2.1 1) (n2i (xlen s2.2.2.2.2.2.2)))
        (chk (okIx s2.1 (xlen s2.2.2.2.2.2.2))
        (chk (okIx (iadd .i64 s2.1 1) (xlen s2.2.2.2.2.2.2))
        (Option.bind (F_i_modulus s2.2.1) fun r4 =>
          (chk (okDiv r4)
          (chk (okIx s2.1 (xlen s2.2.2.2.2.2.2))
          (some (.inl ((iadd .i64 s2.1 1), (s2.2.1, (s2.2.2.1, (s2.2.2.2.1, (s2.2.2.2.2.1, (s2.2.2.2.2.2.1, (xset s2.2.2.2.2.2.2 (i2n s2.1) (irem (iadd .i64 (xget s2.2.2.2.2.2.2 (i2n s2.1) 0) (xget s2.2.2.2.2.2.2 (i2n (iadd .i64 s2.1 1)) 0)) r4)))))))))))))))
        (some (.inr s2.2.2.2.2.2))))
      (0, (x.1, (x.2, (0, (([] : (List Int)), r1)))))))

noncomputable def F_i_Engine_half (x : ((Int × (List Int)) × Int)) : Option (Int × (List Int)) :=
  (Option.bind (F_i_Engine_copied x.1) fun r1 =>
    (iter (σ := (Int × (Int × ((List Int) × (Int × ((List Int) × (Int × (List Int)))))))) (fun s2 =>
      (cond (ilt s2.1 (n2i (xlen s2.2.2.2.2.2.2)))
        (chk (okIx (isub .i64 s2.1 1) (xlen s2.2.2.2.2.2.2))
        (chk (okIx s2.1 (xlen s2.2.2.2.2.2.2))
        (Option.bind (F_i_modulus s2.2.1) fun r4 =>
          (chk (okDiv r4)
          (chk (okIx (isub .i64 s2.1 1) (xlen s2.2.2.2.2.2.2))
          (some (.inl ((iadd .i64 s2.1 2), (s2.2.1, (s2.2.2.1, (s2.2.2.2.1, (s2.2.2.2.2.1, (s2.2.2.2.2.2.1, (xset s2.2.2.2.2.2.2 (i2n (isub .i64 s2.1 1)) (irem (iadd .i64 (xget s2.2.2.2.2.2.2 (i2n (isub .i64 s2.1 1)) 0) (xget s2.2.2.2.2.2.2 (i2n s2.1) 0)) r4)))))))))))))))
        (some (.inr s2.2.2.2.2.2))))
      (x.2, (x.1.1, (x.1.2, (0, (([] : (List Int)), r1)))))))

noncomputable def F_i_RunHalves_1 (x : (Int × (List Int))) : Option (Int × (List Int)) :=
  (Option.bind (F_i_Engine_half (x, 1)) fun r1 =>
    (Option.bind (F_i_Engine_half (r1, 2)) fun r2 =>
      (some r2)))

noncomputable def F_i_Engine_results (x : ((Int × (List Int)) × Int)) : Option (List Int) :=
  (iter (σ := (Int × (Int × (Int × ((List Int) × (List Int)))))) (fun s1 =>
    (cond (ilt s1.2.1 s1.1)
      (chk (okIx 0 (xlen s1.2.2.2.1))
      (chk (okRoom (xlen s1.2.2.2.2) (xlen ((xget s1.2.2.2.1 (i2n 0) 0) :: ([] : (List Int)))) 8)
      (Option.bind (F_i_Engine_cycled (s1.2.2.1, s1.2.2.2.1)) fun r3 =>
        (some (.inl (s1.1, ((iadd .i64 s1.2.1 1), (r3.1, (r3.2, (xapp s1.2.2.2.2 ((xget s1.2.2.2.1 (i2n 0) 0) :: ([] : (List Int)))))))))))))
      (some (.inr s1.2.2.2.2))))
    (x.2, (0, (x.1.1, (x.1.2, ([] : (List Int)))))))

noncomputable def F_i_Engine_results_b (x : ((Int × (List Int)) × Int)) : Option (List Int) :=
  (iter (σ := (Int × (Int × (Int × ((List Int) × (List Int)))))) (fun s1 =>
    (cond (ilt s1.2.1 s1.1)
      (chk (okIx 0 (xlen s1.2.2.2.1))
      (chk (okRoom (xlen s1.2.2.2.2) (xlen ((xget s1.2.2.2.1 (i2n 0) 0) :: ([] : (List Int)))) 8)
      (Option.bind (F_i_RunHalves_1 (s1.2.2.1, s1.2.2.2.1)) fun r3 =>
        (some (.inl (s1.1, ((iadd .i64 s1.2.1 1), (r3.1, (r3.2, (xapp s1.2.2.2.2 ((xget s1.2.2.2.1 (i2n 0) 0) :: ([] : (List Int)))))))))))))
      (some (.inr s1.2.2.2.2))))
    (x.2, (0, (x.1.1, (x.1.2, ([] : (List Int)))))))

noncomputable def F_i_RunEngine (x : ((Int × (List Int)) × Int)) : Option ((List Int) × Int) :=
  (Option.bind (F_i_cyclesCode (x.1, x.2)) fun r1 =>
    (cond (ine r1 0)
      (some (([] : (List Int)), r1))
      (Option.bind (F_i_Engine_results (x.1, x.2)) fun r3 =>
        (some (r3, 0)))))

noncomputable def F_l_eqInt64S (x : ((List Int) × (List Int))) : Option Bool :=
  (cond (ine (n2i (xlen x.1)) (n2i (xlen x.2)))
    (some false)
    (iter (σ := (Int × ((List Int) × (List Int)))) (fun s2 =>
      (cond (ilt s2.1 (n2i (xlen s2.2.1)))
        (chk (okIx s2.1 (xlen s2.2.1))
        (chk (okIx s2.1 (xlen s2.2.2))
        (cond (ine (xget s2.2.1 (i2n s2.1) 0) (xget s2.2.2 (i2n s2.1) 0))
          (some (.inr false))
          (some (.inl ((iadd .i64 s2.1 1), s2.2))))))
        (some (.inr true))))
      (0, x)))

noncomputable def F_l_eqEngine (x : ((Int × (List Int)) × (Int × (List Int)))) : Option Bool :=
  (cond (ine x.1.1 x.2.1)
    (some false)
    (Option.bind (F_l_eqInt64S (x.1.2, x.2.2)) fun r2 =>
      (cond (bnot r2)
        (some false)
        (some true))))

noncomputable def F_l_markInt64S (x : ((List Int) × Int)) : Option (Int × (List Int)) :=
  (iter (σ := (Int × (Int × (List Int)))) (fun s1 =>
    (cond (ilt s1.2.1 (n2i (xlen s1.2.2)))
      (chk (okIx s1.2.1 (xlen s1.2.2))
      (some (.inl ((iadd .i64 s1.1 1), ((iadd .i64 s1.2.1 1), (xset s1.2.2 (i2n s1.2.1) s1.1))))))
      (some (.inr (s1.1, s1.2.2)))))
    (x.2, (0, x.1)))

noncomputable def F_l_markEngine (x : ((Int × (List Int)) × Int)) : Option (Int × (Int × (List Int))) :=
  (Option.bind (F_l_markInt64S (x.1.2, x.2)) fun r1 =>
    (some (r1.1, (x.1.1, r1.2))))

noncomputable def F_l_heldInt64S (x : ((List Int) × Int)) : Option Int :=
  (iter (σ := (Int × (Int × (List Int)))) (fun s1 =>
    (cond (ilt s1.2.1 (n2i (xlen s1.2.2)))
      (chk (okIx s1.2.1 (xlen s1.2.2))
      (cond (ine (xget s1.2.2 (i2n s1.2.1) 0) s1.1)
        (some (.inr (-1)))
        (some (.inl ((iadd .i64 s1.1 1), ((iadd .i64 s1.2.1 1), s1.2.2))))))
      (some (.inr s1.1))))
    (x.2, (0, x.1)))

noncomputable def F_l_FnExactRunEngine (x : ((Int × (List Int)) × Int)) : Option Bool :=
  (Option.bind (F_l_szEngine (x.1, 1048576)) fun r1 =>
    (cond (ilt r1 0)
      (some true)
      (Option.bind (F_l_toEngine x.1) fun r3 =>
        (Option.bind (F_s_RunEngine (r3, x.2)) fun r4 =>
          (Option.bind (F_l_toEngine x.1) fun r5 =>
            (Option.bind (F_i_RunEngine (r5, x.2)) fun r6 =>
              (Option.bind (F_l_eqInt64S (r6.1, r4.1)) fun r7 =>
                (cond (bnot r7)
                  (some false)
                  (cond (ine r6.2 r4.2)
                    (some false)
                    (Option.bind (F_l_toEngine x.1) fun r10 =>
                      (Option.bind (F_l_eqEngine (r5, r10)) fun r11 =>
                        (cond (bnot r11)
                          (some false)
                          (Option.bind (F_l_markEngine (r5, 1)) fun r13 =>
                            (cond (ilt r13.1 0)
                              (some false)
                              (Option.bind (F_l_eqInt64S (r6.1, r4.1)) fun r15 =>
                                (cond (bnot r15)
                                  (some false)
                                  (cond (ine r6.2 r4.2)
                                    (some false)
                                    (Option.bind (F_l_markInt64S (r6.1, 1)) fun r18 =>
                                      (Option.bind (F_l_heldInt64S (r18.2, 1)) fun r19 =>
                                        (cond (ilt r19 0)
                                          (some false)
                                          (cond (ine r19 r18.1)
                                            (some false)
                                            (Option.bind (F_l_toEngine x.1) fun r22 =>
                                              (Option.bind (F_i_RunEngine (r22, x.2)) fun r23 =>
                                                (Option.bind (F_l_eqInt64S (r23.1, r4.1)) fun r24 =>
                                                  (cond (bnot r24)
                                                    (some false)
                                                    (cond (ine r23.2 r4.2)
                                                      (some false)
                                                      (Option.bind (F_l_heldInt64S (r18.2, 1)) fun r27 =>
                                                        (cond (ilt r27 0)
                                                          (some false)
                                                          (cond (ine r27 r18.1)
                                                            (some false)
                                                            (some true))))))))))))))))))))))))))))))

noncomputable def F_s_l27Sum (x : ByteArray) : Option Int :=
  (iter (σ := (ByteArray × (Int × Int))) (fun s1 =>
    (cond (ilt s1.2.2 (n2i (slen s1.1)))
      (chk (okIx s1.2.2 (slen s1.1))
      (chk (okDiv 65521)
      (some (.inl (s1.1, ((irem (iadd .i64 (iadd .i64 (imul .i64 31 s1.2.1) (iwrap .i64 (byteAt s1.1 (i2n s1.2.2)))) 1) 65521), (iadd .i64 s1.2.2 1)))))))
      (some (.inr s1.2.1))))
    (x, (7, 0)))

noncomputable def F_s_l27Body (x : (ByteArray × Int)) : Option (ByteArray × Bool) :=
  (cond (ilt (n2i (slen x.1)) 3)
    (some ((ByteArray.mk #[]), false))
    (chk (okIx 0 (slen x.1))
    (cond (ine (byteAt x.1 (i2n 0)) x.2)
      (some ((ByteArray.mk #[]), false))
      (chk (okTo (isub .i64 (n2i (slen x.1)) 2) (slen x.1))
      (Option.bind (F_s_l27Sum (ssub x.1 0 (i2n (isub .i64 (n2i (slen x.1)) 2)))) fun r3 =>
        (chk (okIx (isub .i64 (n2i (slen x.1)) 2) (slen x.1))
        (chk (okIx (isub .i64 (n2i (slen x.1)) 1) (slen x.1))
        (cond (ine r3 (iadd .i64 (imul .i64 256 (iwrap .i64 (byteAt x.1 (i2n (isub .i64 (n2i (slen x.1)) 2))))) (iwrap .i64 (byteAt x.1 (i2n (isub .i64 (n2i (slen x.1)) 1))))))
          (some ((ByteArray.mk #[]), false))
          (chk (okTo (isub .i64 (n2i (slen x.1)) 2) (slen x.1))
          (chk (okTo 1 (i2n (isub .i64 (n2i (slen x.1)) 2)))
          (some ((ssub x.1 (i2n 1) (i2n (isub .i64 (n2i (slen x.1)) 2))), true))))))))))))

noncomputable def F_s_l27Register (x : ByteArray) : Option ((Int × (List Int)) × (ByteArray × Bool)) :=
  (cond (seq x (ByteArray.mk #[]))
    (some ((0, ([] : (List Int))), ((ByteArray.mk #[]), false)))
    (chk (okIx 0 (slen x))
    (chk (okDiv 16)
    (chk (okIx 0 (slen x))
    (chk (okDiv 16)
    (chk (okDiv 2)
    (cond (ilt (n2i (slen x)) (iadd .i64 (iquo .i64 (iadd .i64 (iadd .i64 (irem (iwrap .i64 (byteAt x (i2n 0))) 16) 1) 1) 2) 1))
      (some ((0, ([] : (List Int))), ((ByteArray.mk #[]), false)))
      (iter (σ := (ByteArray × (Int × (Int × (Int × (Int × ((List Int) × (Int × (List Int))))))))) (fun s3 =>
        (cond (ilt s3.2.2.2.1 s3.2.1)
          (chk (okDiv 2)
          (chk (okIx (iadd .i64 1 (iquo .i64 s3.2.2.2.1 2)) (slen s3.1))
          (chk (okDiv 2)
          (cond (ieq (irem s3.2.2.2.1 2) 0)
            (chk (okDiv 16)
            (chk (okRoom (xlen s3.2.2.2.2.2.2.2) (xlen ((iquo .i64 (iwrap .i64 (byteAt s3.1 (i2n (iadd .i64 1 (iquo .i64 s3.2.2.2.1 2))))) 16) :: ([] : (List Int)))) 8)
            (some (.inl (s3.1, (s3.2.1, (s3.2.2.1, ((iadd .i64 s3.2.2.2.1 1), (s3.2.2.2.2.1, (s3.2.2.2.2.2.1, (s3.2.2.2.2.2.2.1, (xapp s3.2.2.2.2.2.2.2 ((iquo .i64 (iwrap .i64 (byteAt s3.1 (i2n (iadd .i64 1 (iquo .i64 s3.2.2.2.1 2))))) 16) :: ([] : (List Int)))))))))))))))
            (chk (okDiv 16)
            (chk (okRoom (xlen s3.2.2.2.2.2.2.2) (xlen ((irem (iwrap .i64 (byteAt s3.1 (i2n (iadd .i64 1 (iquo .i64 s3.2.2.2.1 2))))) 16) :: ([] : (List Int)))) 8)
            (some (.inl (s3.1, (s3.2.1, (s3.2.2.1, ((iadd .i64 s3.2.2.2.1 1), (s3.2.2.2.2.1, (s3.2.2.2.2.2.1, (s3.2.2.2.2.2.2.1, (xapp s3.2.2.2.2.2.2.2 ((irem (iwrap .i64 (byteAt s3.1 (i2n (iadd .i64 1 (iquo .i64 s3.2.2.2.1 2))))) 16) :: ([] : (List Int)))))))))))))))))))
          (Option.map Sum.inr
            (chk (okTo (iadd .i64 s3.2.2.1 1) (slen s3.1))
          (chk (okDiv 2)
          (cond (ieq (irem s3.2.1 2) 0)
            (some (s3.2.2.2.2.2.2, ((ssub s3.1 (i2n (iadd .i64 s3.2.2.1 1)) (slen s3.1)), true)))
            (chk (okIx s3.2.2.1 (slen s3.1))
            (chk (okDiv 16)
            (some (s3.2.2.2.2.2.2, ((ssub s3.1 (i2n (iadd .i64 s3.2.2.1 1)) (slen s3.1)), (ieq (irem (byteAt s3.1 (i2n s3.2.2.1)) 16) 0))))))))))))
        (x, ((iadd .i64 (irem (iwrap .i64 (byteAt x (i2n 0))) 16) 1), ((iquo .i64 (iadd .i64 (iadd .i64 (irem (iwrap .i64 (byteAt x (i2n 0))) 16) 1) 1) 2), (0, (0, (([] : (List Int)), ((iadd .i64 (iquo .i64 (iwrap .i64 (byteAt x (i2n 0))) 16) 1), ([] : (List Int)))))))))))))))))

noncomputable def F_s_l02Base (x : Int) : Option Bool :=
  (Option.bind (F_s_l00In (x, (2, 16))) fun r1 =>
    (some r1))

noncomputable def F_s_l02Digits (x : (Int × (List Int))) : Option Bool :=
  (iter (σ := (Int × (Int × (List Int)))) (fun s1 =>
    (cond (ilt s1.2.1 (n2i (xlen s1.2.2)))
      (chk (okIx s1.2.1 (xlen s1.2.2))
      (Option.bind (F_s_l00In ((xget s1.2.2 (i2n s1.2.1) 0), (0, (isub .i64 s1.1 1)))) fun r3 =>
        (cond (bnot r3)
          (some (.inr false))
          (some (.inl (s1.1, ((iadd .i64 s1.2.1 1), s1.2.2)))))))
      (Option.map Sum.inr
        (Option.bind (F_s_l00In ((n2i (xlen s1.2.2)), (1, 16))) fun r3 =>
        (some r3)))))
    (x.1, (0, x.2)))

noncomputable def F_s_l02Value (x : (Int × (List Int))) : Option Int :=
  (iter (σ := (Int × (Int × (Int × (List Int))))) (fun s1 =>
    (cond (ige s1.2.2.1 0)
      (chk (okIx s1.2.2.1 (xlen s1.2.2.2))
      (Option.bind (F_s_l00Min (1000000000001, (iadd .i64 (imul .i64 s1.2.1 s1.1) (xget s1.2.2.2 (i2n s1.2.2.1) 0)))) fun r3 =>
        (some (.inl (s1.1, (r3, ((isub .i64 s1.2.2.1 1), s1.2.2.2)))))))
      (some (.inr s1.2.1))))
    (x.1, (0, ((isub .i64 (n2i (xlen x.2)) 1), x.2))))

noncomputable def F_s_l02Ok (x : (Int × (List Int))) : Option Bool :=
  (Option.bind (F_s_l02Base x.1) fun r1 =>
    (cond r1
      (Option.bind (F_s_l02Digits x) fun r3 =>
        (cond r3
          (Option.bind (F_s_l02Value x) fun r5 =>
            (some (ile r5 1000000000000)))
          (some false)))
      (some false)))

noncomputable def F_s_UnpackRegister (x : ByteArray) : Option ((Int × (List Int)) × Int) :=
  (Option.bind (F_s_l27Body (x, 82)) fun r1 =>
    (Option.bind (F_s_l27Register r1.1) fun r2 =>
      (cond (bnot r1.2)
        (some ((0, ([] : (List Int))), 8))
        (cond (bnot r2.2.2)
          (some ((0, ([] : (List Int))), 8))
          (cond (sne r2.2.1 (ByteArray.mk #[]))
            (some ((0, ([] : (List Int))), 8))
            (Option.bind (F_s_l02Ok r2.1) fun r6 =>
              (cond (bnot r6)
                (some ((0, ([] : (List Int))), 8))
                (some (r2.1, 0)))))))))

noncomputable def F_i_takeRegister (x : ByteArray) : Option ((Int × (List Int)) × (ByteArray × Bool)) :=
  (cond (seq x (ByteArray.mk #[]))
    (some ((0, ([] : (List Int))), ((ByteArray.mk #[]), false)))
    (chk (okIx 0 (slen x))
    (chk (okDiv 16)
    (chk (okIx 0 (slen x))
    (chk (okDiv 16)
    (chk (okDiv 2)
    (cond (ilt (n2i (slen x)) (iadd .i64 1 (iquo .i64 (iadd .i64 (iadd .i64 (iwrap .i64 (irem (byteAt x (i2n 0)) 16)) 1) 1) 2)))
      (some ((0, ([] : (List Int))), ((ByteArray.mk #[]), false)))
      (iter (σ := (ByteArray × (Int × (Int × (Int × (Int × ((List Int) × (Int × (List Int))))))))) (fun s3 =>
        (cond (ilt s3.2.2.2.1 s3.2.2.1)
          (chk (okDiv 2)
          (chk (okIx (iadd .i64 1 (iquo .i64 s3.2.2.2.1 2)) (slen s3.1))
          (chk (okDiv 2)
          (cond (ieq (irem s3.2.2.2.1 2) 0)
            (chk (okDiv 16)
            (chk (okDiv 16)
            (chk (okRoom (xlen s3.2.2.2.2.2.2.2) (xlen ((iwrap .i64 (irem (iquo .u8 (byteAt s3.1 (i2n (iadd .i64 1 (iquo .i64 s3.2.2.2.1 2)))) 16) 16)) :: ([] : (List Int)))) 8)
            (some (.inl (s3.1, (s3.2.1, (s3.2.2.1, ((iadd .i64 s3.2.2.2.1 1), (s3.2.2.2.2.1, (s3.2.2.2.2.2.1, (s3.2.2.2.2.2.2.1, (xapp s3.2.2.2.2.2.2.2 ((iwrap .i64 (irem (iquo .u8 (byteAt s3.1 (i2n (iadd .i64 1 (iquo .i64 s3.2.2.2.1 2)))) 16) 16)) :: ([] : (List Int))))))))))))))))
            (chk (okDiv 16)
            (chk (okRoom (xlen s3.2.2.2.2.2.2.2) (xlen ((iwrap .i64 (irem (byteAt s3.1 (i2n (iadd .i64 1 (iquo .i64 s3.2.2.2.1 2)))) 16)) :: ([] : (List Int)))) 8)
            (some (.inl (s3.1, (s3.2.1, (s3.2.2.1, ((iadd .i64 s3.2.2.2.1 1), (s3.2.2.2.2.1, (s3.2.2.2.2.2.1, (s3.2.2.2.2.2.2.1, (xapp s3.2.2.2.2.2.2.2 ((iwrap .i64 (irem (byteAt s3.1 (i2n (iadd .i64 1 (iquo .i64 s3.2.2.2.1 2)))) 16)) :: ([] : (List Int)))))))))))))))))))
          (Option.map Sum.inr
            (chk (okDiv 2)
          (chk (okTo (iadd .i64 1 (iquo .i64 (iadd .i64 s3.2.1 1) 2)) (slen s3.1))
          (some (s3.2.2.2.2.2.2, ((ssub s3.1 (i2n (iadd .i64 1 (iquo .i64 (iadd .i64 s3.2.1 1) 2))) (slen s3.1)), true))))))))
        (x, ((iadd .i64 (iwrap .i64 (irem (byteAt x (i2n 0)) 16)) 1), ((iadd .i64 (iwrap .i64 (irem (byteAt x (i2n 0)) 16)) 1), (0, (0, (([] : (List Int)), ((iadd .i64 (iwrap .i64 (iquo .u8 (byteAt x (i2n 0)) 16)) 1), ([] : (List Int)))))))))))))))))

noncomputable def F_i_Register_width (x : (Int × (List Int))) : Option Int :=
  (some (n2i (xlen x.2)))

noncomputable def F_i_Register_bytes (x : (Int × (List Int))) : Option (List Int) :=
  (Option.bind (F_i_Register_width x) fun r1 =>
    (iter (σ := (Int × (Int × ((List Int) × (List Int))))) (fun s2 =>
      (Option.bind (F_i_Register_width (s2.2.1, s2.2.2.1)) fun r3 =>
        (cond (ilt s2.1 r3)
          (chk (okIx s2.1 (xlen s2.2.2.1))
          (Option.bind (F_i_Register_width (s2.2.1, s2.2.2.1)) fun r5 =>
            (cond (ilt (iadd .i64 s2.1 1) r5)
              (chk (okIx (iadd .i64 s2.1 1) (xlen s2.2.2.1))
              (chk (okRoom (xlen s2.2.2.2) (xlen ((iadd .u8 (iwrap .u8 (imul .i64 16 (xget s2.2.2.1 (i2n s2.1) 0))) (iwrap .u8 (xget s2.2.2.1 (i2n (iadd .i64 s2.1 1)) 0))) :: ([] : (List Int)))) 1)
              (some (.inl ((iadd .i64 s2.1 2), (s2.2.1, (s2.2.2.1, (xapp s2.2.2.2 ((iadd .u8 (iwrap .u8 (imul .i64 16 (xget s2.2.2.1 (i2n s2.1) 0))) (iwrap .u8 (xget s2.2.2.1 (i2n (iadd .i64 s2.1 1)) 0))) :: ([] : (List Int)))))))))))
              (chk (okRoom (xlen s2.2.2.2) (xlen ((iwrap .u8 (imul .i64 16 (xget s2.2.2.1 (i2n s2.1) 0))) :: ([] : (List Int)))) 1)
              (some (.inl ((iadd .i64 s2.1 2), (s2.2.1, (s2.2.2.1, (xapp s2.2.2.2 ((iwrap .u8 (imul .i64 16 (xget s2.2.2.1 (i2n s2.1) 0))) :: ([] : (List Int)))))))))))))
          (some (.inr s2.2.2.2)))))
      (0, (x.1, (x.2, ((iadd .u8 (iwrap .u8 (imul .i64 16 (isub .i64 x.1 1))) (iwrap .u8 (isub .i64 r1 1))) :: ([] : (List Int))))))))

noncomputable def F_i_SumOfBytes (x : ByteArray) : Option Int :=
  (iter (σ := (ByteArray × (Int × (Int × Int)))) (fun s1 =>
    (cond (ilt s1.2.2.2 s1.2.2.1)
      (chk (okIx s1.2.2.2 (slen s1.1))
      (chk (okDiv 65521)
      (some (.inl (s1.1, ((irem (iadd .i64 (iadd .i64 (imul .i64 31 s1.2.1) (iwrap .i64 (byteAt s1.1 (i2n s1.2.2.2)))) 1) 65521), (s1.2.2.1, (iadd .i64 s1.2.2.2 1))))))))
      (some (.inr s1.2.1))))
    (x, (7, ((n2i (slen x)), 0))))

noncomputable def F_i_sealed (x : (List Int)) : Option ByteArray :=
  (Option.bind (F_i_SumOfBytes (b2s x)) fun r1 =>
    (chk (okDiv 256)
    (chk (okDiv 256)
    (chk (okRoom (xlen x) (xlen ((iwrap .u8 (iquo .i64 r1 256)) :: ((iwrap .u8 (irem r1 256)) :: ([] : (List Int))))) 1)
    (some (b2s (xapp x ((iwrap .u8 (iquo .i64 r1 256)) :: ((iwrap .u8 (irem r1 256)) :: ([] : (List Int)))))))))))

noncomputable def F_i_isBase (x : Int) : Option Bool :=
  (Option.bind (F_i_between (x, (2, 16))) fun r1 =>
    (some r1))

noncomputable def F_i_isRegisterWidth (x : Int) : Option Bool :=
  (Option.bind (F_i_between (x, (1, 16))) fun r1 =>
    (some r1))

noncomputable def F_i_Register_value (x : (Int × (List Int))) : Option Int :=
  (iter (σ := (Int × (Int × (Int × (List Int))))) (fun s1 =>
    (cond (ige s1.2.1 0)
      (chk (okIx s1.2.1 (xlen s1.2.2.2))
      (cond (igt (iadd .i64 (imul .i64 s1.1 s1.2.2.1) (xget s1.2.2.2 (i2n s1.2.1) 0)) 1000000000000)
        (some (.inr 1000000000001))
        (some (.inl ((iadd .i64 (imul .i64 s1.1 s1.2.2.1) (xget s1.2.2.2 (i2n s1.2.1) 0)), ((isub .i64 s1.2.1 1), s1.2.2))))))
      (some (.inr s1.1))))
    (0, ((isub .i64 (n2i (xlen x.2)) 1), x)))

noncomputable def F_i_ValidRegister (x : (Int × (List Int))) : Option Bool :=
  (Option.bind (F_i_isBase x.1) fun r1 =>
    (cond (bnot r1)
      (some false)
      (Option.bind (F_i_isRegisterWidth (n2i (xlen x.2))) fun r3 =>
        (cond (bnot r3)
          (some false)
          (iter (σ := (Int × (Int × (Int × (List Int))))) (fun s5 =>
            (cond (ilt s5.2.1 s5.1)
              (chk (okIx s5.2.1 (xlen s5.2.2.2))
              (Option.bind (F_i_between ((xget s5.2.2.2 (i2n s5.2.1) 0), (0, (isub .i64 s5.2.2.1 1)))) fun r7 =>
                (cond (bnot r7)
                  (some (.inr false))
                  (some (.inl (s5.1, ((iadd .i64 s5.2.1 1), s5.2.2)))))))
              (Option.map Sum.inr
                (Option.bind (F_i_Register_value s5.2.2) fun r7 =>
                (some (ile r7 1000000000000))))))
            ((n2i (xlen x.2)), (0, x)))))))

noncomputable def F_i_PackRegister (x : (Int × (List Int))) : Option (ByteArray × Int) :=
  (Option.bind (F_i_ValidRegister x) fun r1 =>
    (cond (bnot r1)
      (some ((ByteArray.mk #[]), 1))
      (Option.bind (F_i_Register_bytes x) fun r3 =>
        (chk (okRoom (xlen (82 :: ([] : (List Int)))) (xlen r3) 1)
        (Option.bind (F_i_sealed (xapp (82 :: ([] : (List Int))) r3)) fun r4 =>
          (some (r4, 0)))))))

noncomputable def F_i_UnpackRegister (x : ByteArray) : Option ((Int × (List Int)) × Int) :=
  (cond (seq x (ByteArray.mk #[]))
    (some ((0, ([] : (List Int))), 8))
    (chk (okTo 1 (slen x))
    (Option.bind (F_i_takeRegister (ssub x (i2n 1) (slen x))) fun r2 =>
      (Option.bind (F_i_PackRegister r2.1) fun r3 =>
        (cond (bnot r2.2.2)
          (some ((0, ([] : (List Int))), 8))
          (cond (ine r3.2 0)
            (some ((0, ([] : (List Int))), 8))
            (cond (sne r3.1 x)
              (some ((0, ([] : (List Int))), 8))
              (some (r2.1, 0)))))))))

noncomputable def F_l_eqRegister (x : ((Int × (List Int)) × (Int × (List Int)))) : Option Bool :=
  (cond (ine x.1.1 x.2.1)
    (some false)
    (Option.bind (F_l_eqInt64S (x.1.2, x.2.2)) fun r2 =>
      (cond (bnot r2)
        (some false)
        (some true))))

noncomputable def F_l_markRegister (x : ((Int × (List Int)) × Int)) : Option (Int × (Int × (List Int))) :=
  (Option.bind (F_l_markInt64S (x.1.2, x.2)) fun r1 =>
    (some (r1.1, (x.1.1, r1.2))))

noncomputable def F_l_heldRegister (x : ((Int × (List Int)) × Int)) : Option Int :=
  (Option.bind (F_l_heldInt64S (x.1.2, x.2)) fun r1 =>
    (cond (ilt r1 0)
      (some (-1))
      (some r1)))

noncomputable def F_l_FnExactUnpackRegister (x : ByteArray) : Option Bool :=
  (cond (igt (n2i (slen x)) 1048576)
    (some true)
    (Option.bind (F_s_UnpackRegister x) fun r2 =>
      (Option.bind (F_i_UnpackRegister x) fun r3 =>
        (Option.bind (F_l_eqRegister (r3.1, r2.1)) fun r4 =>
          (cond (bnot r4)
            (some false)
            (cond (ine r3.2 r2.2)
              (some false)
              (Option.bind (F_l_markRegister (r3.1, 1)) fun r7 =>
                (Option.bind (F_l_heldRegister ((r3.1.1, r7.2.2), 1)) fun r8 =>
                  (cond (ilt r8 0)
                    (some false)
                    (cond (ine r8 r7.1)
                      (some false)
                      (Option.bind (F_i_UnpackRegister x) fun r11 =>
                        (Option.bind (F_l_eqRegister (r11.1, r2.1)) fun r12 =>
                          (cond (bnot r12)
                            (some false)
                            (cond (ine r11.2 r2.2)
                              (some false)
                              (Option.bind (F_l_heldRegister ((r3.1.1, r7.2.2), 1)) fun r15 =>
                                (cond (ilt r15 0)
                                  (some false)
                                  (cond (ine r15 r7.1)
                                    (some false)
                                    (some true))))))))))))))))))

noncomputable def F_l_szRegister (x : ((Int × (List Int)) × Int)) : Option Int :=
  (Option.bind (F_l_szInt64S (x.1.2, x.2)) fun r1 =>
    (cond (ilt r1 0)
      (some (-1))
      (some r1)))

noncomputable def F_l_szMachine (x : (((Int × (List Int)) × ((Int × (List Int)) × ((Int × (List Int)) × Int))) × Int)) : Option Int :=
  (Option.bind (F_l_szRegister (x.1.1, x.2)) fun r1 =>
    (cond (ilt r1 0)
      (some (-1))
      (Option.bind (F_l_szRegister (x.1.2.1, r1)) fun r3 =>
        (cond (ilt r3 0)
          (some (-1))
          (Option.bind (F_l_szRegister (x.1.2.2.1, r3)) fun r5 =>
            (cond (ilt r5 0)
              (some (-1))
              (some r5)))))))

noncomputable def F_l_szLeverFaultS (x : ((List (Int × Int)) × Int)) : Option Int :=
  (cond (ilt (isub .i64 x.2 (n2i (xlen x.1))) 0)
    (some (-1))
    (some (isub .i64 x.2 (n2i (xlen x.1)))))

noncomputable def F_l_szDesk (x : ((((Int × (List Int)) × ((Int × (List Int)) × ((Int × (List Int)) × Int))) × ((List (Int × Int)) × ByteArray)) × Int)) : Option Int :=
  (Option.bind (F_l_szMachine ((x.1.1.1, (x.1.1.2.1, (x.1.1.2.2.1, x.1.1.2.2.2))), x.2)) fun r1 =>
    (cond (ilt r1 0)
      (some (-1))
      (Option.bind (F_l_szLeverFaultS (x.1.2.1, r1)) fun r3 =>
        (cond (ilt r3 0)
          (some (-1))
          (cond (ilt (isub .i64 r3 (n2i (slen x.1.2.2))) 0)
            (some (-1))
            (some (isub .i64 r3 (n2i (slen x.1.2.2)))))))))

noncomputable def F_s_l00Same (x : ((List Int) × (List Int))) : Option Bool :=
  (cond (ine (n2i (xlen x.1)) (n2i (xlen x.2)))
    (some false)
    (iter (σ := (Int × ((List Int) × (List Int)))) (fun s2 =>
      (cond (ilt s2.1 (n2i (xlen s2.2.1)))
        (chk (okIx s2.1 (xlen s2.2.1))
        (chk (okIx s2.1 (xlen s2.2.2))
        (cond (ine (xget s2.2.1 (i2n s2.1) 0) (xget s2.2.2 (i2n s2.1) 0))
          (some (.inr false))
          (some (.inl ((iadd .i64 s2.1 1), s2.2))))))
        (some (.inr true))))
      (0, x)))

noncomputable def F_s_l02Same (x : ((Int × (List Int)) × (Int × (List Int)))) : Option Bool :=
  (cond (ieq x.1.1 x.2.1)
    (Option.bind (F_s_l00Same (x.1.2, x.2.2)) fun r2 =>
      (some r2))
    (some false))

noncomputable def F_s_l10Same (x : (((Int × (List Int)) × ((Int × (List Int)) × ((Int × (List Int)) × Int))) × ((Int × (List Int)) × ((Int × (List Int)) × ((Int × (List Int)) × Int))))) : Option Bool :=
  (Option.bind (F_s_l02Same (x.1.1, x.2.1)) fun r1 =>
    (cond r1
      (Option.bind (F_s_l02Same (x.1.2.1, x.2.2.1)) fun r3 =>
        (cond r3
          (Option.bind (F_s_l02Same (x.1.2.2.1, x.2.2.2.1)) fun r5 =>
            (cond r5
              (some (ieq x.1.2.2.2 x.2.2.2.2))
              (some false)))
          (some false)))
      (some false)))

noncomputable def F_s_l28Faults (x : ((List (Int × Int)) × (List (Int × Int)))) : Option Bool :=
  (cond (ine (n2i (xlen x.1)) (n2i (xlen x.2)))
    (some false)
    (iter (σ := (Int × ((List (Int × Int)) × (List (Int × Int))))) (fun s2 =>
      (cond (ilt s2.1 (n2i (xlen s2.2.1)))
        (chk (okIx s2.1 (xlen s2.2.1))
        (chk (okIx s2.1 (xlen s2.2.2))
        (cond (bnot (band (ieq (xget s2.2.1 (i2n s2.1) (0, 0)).1 (xget s2.2.2 (i2n s2.1) (0, 0)).1) (band (ieq (xget s2.2.1 (i2n s2.1) (0, 0)).2 (xget s2.2.2 (i2n s2.1) (0, 0)).2) true)))
          (some (.inr false))
          (some (.inl ((iadd .i64 s2.1 1), s2.2))))))
        (some (.inr true))))
      (0, x)))

noncomputable def F_s_SameDesk (x : ((((Int × (List Int)) × ((Int × (List Int)) × ((Int × (List Int)) × Int))) × ((List (Int × Int)) × ByteArray)) × (((Int × (List Int)) × ((Int × (List Int)) × ((Int × (List Int)) × Int))) × ((List (Int × Int)) × ByteArray)))) : Option Bool :=
  (Option.bind (F_s_l10Same ((x.1.1.1, (x.1.1.2.1, (x.1.1.2.2.1, x.1.1.2.2.2))), (x.2.1.1, (x.2.1.2.1, (x.2.1.2.2.1, x.2.1.2.2.2))))) fun r1 =>
    (cond r1
      (Option.bind (F_s_l28Faults (x.1.2.1, x.2.2.1)) fun r3 =>
        (cond r3
          (some (seq x.1.2.2 x.2.2.2))
          (some false)))
      (some false)))

noncomputable def F_l_toRegister (x : (Int × (List Int))) : Option (Int × (List Int)) :=
  (Option.bind (F_l_toInt64S x.2) fun r1 =>
    (some (x.1, r1)))

noncomputable def F_l_toMachine (x : ((Int × (List Int)) × ((Int × (List Int)) × ((Int × (List Int)) × Int)))) : Option ((Int × (List Int)) × ((Int × (List Int)) × ((Int × (List Int)) × Int))) :=
  (Option.bind (F_l_toRegister x.1) fun r1 =>
    (Option.bind (F_l_toRegister x.2.1) fun r2 =>
      (Option.bind (F_l_toRegister x.2.2.1) fun r3 =>
        (some (r1, (r2, (r3, x.2.2.2)))))))

noncomputable def F_l_toLeverFault (x : (Int × Int)) : Option (Int × Int) :=
  (some x)

noncomputable def F_l_toLeverFaultS (x : (List (Int × Int))) : Option (List (Int × Int)) :=
  (chk (ieq (n2i (xlen x)) (n2i (xlen x)))
  (chk (okMake (n2i (xlen x)) 16)
  (iter (σ := (Int × ((List (Int × Int)) × (List (Int × Int))))) (fun s1 =>
    (cond (ilt s1.1 (n2i (xlen s1.2.1)))
      (chk (okIx s1.1 (xlen s1.2.1))
      (Option.bind (F_l_toLeverFault (xget s1.2.1 (i2n s1.1) (0, 0))) fun r3 =>
        (chk (okIx s1.1 (xlen s1.2.2))
        (some (.inl ((iadd .i64 s1.1 1), (s1.2.1, (xset s1.2.2 (i2n s1.1) r3))))))))
      (some (.inr s1.2.2))))
    (0, (x, (xrep (i2n (n2i (xlen x))) (0, 0)))))))

noncomputable def F_l_toDesk (x : (((Int × (List Int)) × ((Int × (List Int)) × ((Int × (List Int)) × Int))) × ((List (Int × Int)) × ByteArray))) : Option (((Int × (List Int)) × ((Int × (List Int)) × ((Int × (List Int)) × Int))) × ((List (Int × Int)) × ByteArray)) :=
  (Option.bind (F_l_toMachine (x.1.1, (x.1.2.1, (x.1.2.2.1, x.1.2.2.2)))) fun r1 =>
    (Option.bind (F_l_toLeverFaultS x.2.1) fun r2 =>
      (some ((r1.1, (r1.2.1, (r1.2.2.1, r1.2.2.2))), (r2, x.2.2)))))

noncomputable def F_i_sameNumbers (x : ((List Int) × (List Int))) : Option Bool :=
  (cond (ine (n2i (xlen x.1)) (n2i (xlen x.2)))
    (some false)
    (iter (σ := (Int × (Int × ((List Int) × (List Int))))) (fun s2 =>
      (cond (ilt s2.2.1 s2.1)
        (chk (okIx s2.2.1 (xlen s2.2.2.1))
        (chk (okIx s2.2.1 (xlen s2.2.2.2))
        (cond (ine (xget s2.2.2.1 (i2n s2.2.1) 0) (xget s2.2.2.2 (i2n s2.2.1) 0))
          (some (.inr false))
          (some (.inl (s2.1, ((iadd .i64 s2.2.1 1), s2.2.2)))))))
        (some (.inr true))))
      ((n2i (xlen x.1)), (0, x))))

noncomputable def F_i_SameRegister (x : ((Int × (List Int)) × (Int × (List Int)))) : Option Bool :=
  (cond (ieq x.1.1 x.2.1)
    (Option.bind (F_i_sameNumbers (x.1.2, x.2.2)) fun r2 =>
      (some r2))
    (some false))

noncomputable def F_i_SameMachine (x : (((Int × (List Int)) × ((Int × (List Int)) × ((Int × (List Int)) × Int))) × ((Int × (List Int)) × ((Int × (List Int)) × ((Int × (List Int)) × Int))))) : Option Bool :=
  (Option.bind (F_i_SameRegister (x.1.1, x.2.1)) fun r1 =>
    (cond r1
      (Option.bind (F_i_SameRegister (x.1.2.1, x.2.2.1)) fun r3 =>
        (cond r3
          (Option.bind (F_i_SameRegister (x.1.2.2.1, x.2.2.2.1)) fun r5 =>
            (cond r5
              (some (ieq x.1.2.2.2 x.2.2.2.2))
              (some false)))
          (some false)))
      (some false)))

noncomputable def F_i_SameDesk (x : ((((Int × (List Int)) × ((Int × (List Int)) × ((Int × (List Int)) × Int))) × ((List (Int × Int)) × ByteArray)) × (((Int × (List Int)) × ((Int × (List Int)) × ((Int × (List Int)) × Int))) × ((List (Int × Int)) × ByteArray)))) : Option Bool :=
  (Option.bind (F_i_SameMachine ((x.1.1.1, (x.1.1.2.1, (x.1.1.2.2.1, x.1.1.2.2.2))), (x.2.1.1, (x.2.1.2.1, (x.2.1.2.2.1, x.2.1.2.2.2))))) fun r1 =>
    (cond (bnot r1)
      (some false)
      (cond (ine (n2i (xlen x.1.2.1)) (n2i (xlen x.2.2.1)))
        (some false)
        (cond (sne x.1.2.2 x.2.2.2)
          (some false)
          (iter (σ := (Int × (Int × (Int × (Int × (Int × (Int × (ByteArray × ((List Int) × ((List Int) × ((List Int) × ((List (Int × Int)) × (Int × (Int × (Int × (Int × (ByteArray × ((List Int) × ((List Int) × ((List Int) × (List (Int × Int)))))))))))))))))))))) (fun s5 =>
            (cond (ilt s5.2.1 s5.1)
              (chk (okIx s5.2.1 (xlen s5.2.2.2.2.2.2.2.2.2.2.1))
              (chk (okIx s5.2.1 (xlen s5.2.2.2.2.2.2.2.2.2.2.2.2.2.2.2.2.2.2.2))
              (cond (bnot (band (ieq (xget s5.2.2.2.2.2.2.2.2.2.2.1 (i2n s5.2.1) (0, 0)).1 (xget s5.2.2.2.2.2.2.2.2.2.2.2.2.2.2.2.2.2.2.2 (i2n s5.2.1) (0, 0)).1) (band (ieq (xget s5.2.2.2.2.2.2.2.2.2.2.1 (i2n s5.2.1) (0, 0)).2 (xget s5.2.2.2.2.2.2.2.2.2.2.2.2.2.2.2.2.2.2.2 (i2n s5.2.1) (0, 0)).2) true)))
                (some (.inr false))
                (some (.inl (s5.1, ((iadd .i64 s5.2.1 1), (s5.2.2.1, (s5.2.2.2.1, (s5.2.2.2.2.1, (s5.2.2.2.2.2.1, (s5.2.2.2.2.2.2.1, (s5.2.2.2.2.2.2.2.1, (s5.2.2.2.2.2.2.2.2.1, (s5.2.2.2.2.2.2.2.2.2.1, (s5.2.2.2.2.2.2.2.2.2.2.1, (s5.2.2.2.2.2.2.2.2.2.2.2.1, (s5.2.2.2.2.2.2.2.2.2.2.2.2.1, (s5.2.2.2.2.2.2.2.2.2.2.2.2.2.1, (s5.2.2.2.2.2.2.2.2.2.2.2.2.2.2.1, (s5.2.2.2.2.2.2.2.2.2.2.2.2.2.2.2.1, (s5.2.2.2.2.2.2.2.2.2.2.2.2.2.2.2.2.1, (s5.2.2.2.2.2.2.2.2.2.2.2.2.2.2.2.2.2.1, s5.2.2.2.2.2.2.2.2.2.2.2.2.2.2.2.2.2.2)))))))))))))))))))))))
              (some (.inr true))))
            ((n2i (xlen x.1.2.1)), (0, (x.1.1.1.1, (x.1.1.2.1.1, (x.1.1.2.2.1.1, (x.1.1.2.2.2, (x.1.2.2, (x.1.1.1.2, (x.1.1.2.1.2, (x.1.1.2.2.1.2, (x.1.2.1, (x.2.1.1.1, (x.2.1.2.1.1, (x.2.1.2.2.1.1, (x.2.1.2.2.2, (x.2.2.2, (x.2.1.1.2, (x.2.1.2.1.2, (x.2.1.2.2.1.2, x.2.2.1))))))))))))))))))))))))

noncomputable def F_l_eqMachine (x : (((Int × (List Int)) × ((Int × (List Int)) × ((Int × (List Int)) × Int))) × ((Int × (List Int)) × ((Int × (List Int)) × ((Int × (List Int)) × Int))))) : Option Bool :=
  (Option.bind (F_l_eqRegister (x.1.1, x.2.1)) fun r1 =>
    (cond (bnot r1)
      (some false)
      (Option.bind (F_l_eqRegister (x.1.2.1, x.2.2.1)) fun r3 =>
        (cond (bnot r3)
          (some false)
          (Option.bind (F_l_eqRegister (x.1.2.2.1, x.2.2.2.1)) fun r5 =>
            (cond (bnot r5)
              (some false)
              (cond (ine x.1.2.2.2 x.2.2.2.2)
                (some false)
                (some true))))))))

noncomputable def F_l_eqLeverFault (x : ((Int × Int) × (Int × Int))) : Option Bool :=
  (cond (ine x.1.1 x.2.1)
    (some false)
    (cond (ine x.1.2 x.2.2)
      (some false)
      (some true)))

noncomputable def F_l_eqLeverFaultS (x : ((List (Int × Int)) × (List (Int × Int)))) : Option Bool :=
  (cond (ine (n2i (xlen x.1)) (n2i (xlen x.2)))
    (some false)
    (iter (σ := (Int × ((List (Int × Int)) × (List (Int × Int))))) (fun s2 =>
      (cond (ilt s2.1 (n2i (xlen s2.2.1)))
        (chk (okIx s2.1 (xlen s2.2.1))
        (chk (okIx s2.1 (xlen s2.2.2))
        (Option.bind (F_l_eqLeverFault ((xget s2.2.1 (i2n s2.1) (0, 0)), (xget s2.2.2 (i2n s2.1) (0, 0)))) fun r4 =>
          (cond (bnot r4)
            (some (.inr false))
            (some (.inl ((iadd .i64 s2.1 1), s2.2)))))))
        (some (.inr true))))
      (0, x)))

noncomputable def F_l_eqDesk (x : ((((Int × (List Int)) × ((Int × (List Int)) × ((Int × (List Int)) × Int))) × ((List (Int × Int)) × ByteArray)) × (((Int × (List Int)) × ((Int × (List Int)) × ((Int × (List Int)) × Int))) × ((List (Int × Int)) × ByteArray)))) : Option Bool :=
  (Option.bind (F_l_eqMachine ((x.1.1.1, (x.1.1.2.1, (x.1.1.2.2.1, x.1.1.2.2.2))), (x.2.1.1, (x.2.1.2.1, (x.2.1.2.2.1, x.2.1.2.2.2))))) fun r1 =>
    (cond (bnot r1)
      (some false)
      (Option.bind (F_l_eqLeverFaultS (x.1.2.1, x.2.2.1)) fun r3 =>
        (cond (bnot r3)
          (some false)
          (cond (sne x.1.2.2 x.2.2.2)
            (some false)
            (some true))))))

noncomputable def F_l_FnExactSameDesk (x : ((((Int × (List Int)) × ((Int × (List Int)) × ((Int × (List Int)) × Int))) × ((List (Int × Int)) × ByteArray)) × (((Int × (List Int)) × ((Int × (List Int)) × ((Int × (List Int)) × Int))) × ((List (Int × Int)) × ByteArray)))) : Option Bool :=
  (Option.bind (F_l_szDesk (((x.1.1.1, (x.1.1.2.1, (x.1.1.2.2.1, x.1.1.2.2.2))), x.1.2), 1048576)) fun r1 =>
    (cond (ilt r1 0)
      (some true)
      (Option.bind (F_l_szDesk (((x.2.1.1, (x.2.1.2.1, (x.2.1.2.2.1, x.2.1.2.2.2))), x.2.2), r1)) fun r3 =>
        (cond (ilt r3 0)
          (some true)
          (Option.bind (F_l_toDesk ((x.1.1.1, (x.1.1.2.1, (x.1.1.2.2.1, x.1.1.2.2.2))), x.1.2)) fun r5 =>
            (Option.bind (F_l_toDesk ((x.2.1.1, (x.2.1.2.1, (x.2.1.2.2.1, x.2.1.2.2.2))), x.2.2)) fun r6 =>
              (Option.bind (F_s_SameDesk (((r5.1.1, (r5.1.2.1, (r5.1.2.2.1, r5.1.2.2.2))), r5.2), ((r6.1.1, (r6.1.2.1, (r6.1.2.2.1, r6.1.2.2.2))), r6.2))) fun r7 =>
                (Option.bind (F_l_toDesk ((x.1.1.1, (x.1.1.2.1, (x.1.1.2.2.1, x.1.1.2.2.2))), x.1.2)) fun r8 =>
                  (Option.bind (F_l_toDesk ((x.2.1.1, (x.2.1.2.1, (x.2.1.2.2.1, x.2.1.2.2.2))), x.2.2)) fun r9 =>
                    (Option.bind (F_i_SameDesk (((r8.1.1, (r8.1.2.1, (r8.1.2.2.1, r8.1.2.2.2))), r8.2), ((r9.1.1, (r9.1.2.1, (r9.1.2.2.1, r9.1.2.2.2))), r9.2))) fun r10 =>
                      (cond (bnev r10 r7)
                        (some false)
                        (Option.bind (F_l_toDesk ((x.1.1.1, (x.1.1.2.1, (x.1.1.2.2.1, x.1.1.2.2.2))), x.1.2)) fun r12 =>
                          (Option.bind (F_l_eqDesk (((r8.1.1, (r8.1.2.1, (r8.1.2.2.1, r8.1.2.2.2))), r8.2), ((r12.1.1, (r12.1.2.1, (r12.1.2.2.1, r12.1.2.2.2))), r12.2))) fun r13 =>
                            (cond (bnot r13)
                              (some false)
                              (Option.bind (F_l_toDesk ((x.2.1.1, (x.2.1.2.1, (x.2.1.2.2.1, x.2.1.2.2.2))), x.2.2)) fun r15 =>
                                (Option.bind (F_l_eqDesk (((r9.1.1, (r9.1.2.1, (r9.1.2.2.1, r9.1.2.2.2))), r9.2), ((r15.1.1, (r15.1.2.1, (r15.1.2.2.1, r15.1.2.2.2))), r15.2))) fun r16 =>
                                  (cond (bnot r16)
                                    (some false)
                                    (some true))))))))))))))))))

noncomputable def F_s_l16Back (x : (Int × (List Int))) : Option (Int × (List Int)) :=
  (Option.bind (F_s_l16Own x) fun r1 =>
    (iter (σ := (Int × ((List (Int × (List Int))) × (Int × ((List Int) × (Int × (List Int))))))) (fun s2 =>
      (cond (igt s2.1 0)
        (chk (okIx (isub .i64 s2.1 1) (xlen s2.2.2.2.2.2))
        (chk (okIx s2.1 (xlen s2.2.2.2.2.2))
        (Option.bind (F_s_l16Mod ((xget s2.2.1 0 (0, ([] : (List Int)))).1, (isub .i64 (xget s2.2.2.2.2.2 (i2n (isub .i64 s2.1 1)) 0) (xget s2.2.2.2.2.2 (i2n s2.1) 0)))) fun r4 =>
          (chk (okIx (isub .i64 s2.1 1) (xlen s2.2.2.2.2.2))
          (some (.inl ((isub .i64 s2.1 1), (s2.2.1, (s2.2.2.1, (s2.2.2.2.1, (s2.2.2.2.2.1, (xset s2.2.2.2.2.2 (i2n (isub .i64 s2.1 1)) r4))))))))))))
        (some (.inr s2.2.2.2.2))))
      ((isub .i64 (n2i (xlen r1.2)) 1), ((x :: ([] : (List (Int × (List Int))))), (0, (([] : (List Int)), r1))))))

noncomputable def F_s_l16Prepare (x : (Int × (List Int))) : Option (Int × (List Int)) :=
  (Option.bind (F_s_l16Own x) fun r1 =>
    (Option.bind (F_s_l16Own x) fun r2 =>
      (iter (σ := (Int × (Int × ((List Int) × (Int × ((List Int) × (Int × (List Int)))))))) (fun s3 =>
        (cond (ilt s3.1 (n2i (xlen s3.2.2.2.2.1)))
          (cond (igt s3.1 0)
            (chk (okDiv 2)
            (cond (ieq (irem s3.1 2) 0)
              (Option.bind (F_s_l16Back s3.2.2.2.2.2) fun r7 =>
                (chk (okIx s3.1 (xlen r7.2))
                (chk (okIx s3.1 (xlen s3.2.2.2.2.1))
                (some (.inl ((iadd .i64 s3.1 1), (s3.2.1, (s3.2.2.1, (s3.2.2.2.1, ((xset s3.2.2.2.2.1 (i2n s3.1) (xget r7.2 (i2n s3.1) 0)), r7))))))))))
              (chk (okIx s3.1 (xlen s3.2.2.2.2.2.2))
              (chk (okIx s3.1 (xlen s3.2.2.2.2.1))
              (some (.inl ((iadd .i64 s3.1 1), (s3.2.1, (s3.2.2.1, (s3.2.2.2.1, ((xset s3.2.2.2.2.1 (i2n s3.1) (xget s3.2.2.2.2.2.2 (i2n s3.1) 0)), s3.2.2.2.2.2)))))))))))
            (chk (okIx s3.1 (xlen s3.2.2.2.2.2.2))
            (chk (okIx s3.1 (xlen s3.2.2.2.2.1))
            (some (.inl ((iadd .i64 s3.1 1), (s3.2.1, (s3.2.2.1, (s3.2.2.2.1, ((xset s3.2.2.2.2.1 (i2n s3.1) (xget s3.2.2.2.2.2.2 (i2n s3.1) 0)), s3.2.2.2.2.2))))))))))
          (some (.inr (s3.2.2.2.1, s3.2.2.2.2.1)))))
        (0, (0, (([] : (List Int)), (r1.1, (r1.2, r2))))))))

noncomputable def F_s_l16Half (x : ((Int × (List Int)) × Bool)) : Option (Int × (List Int)) :=
  (Option.bind (F_s_l16Own x.1) fun r1 =>
    (cond x.2
      (iter (σ := (Int × (Int × ((List Int) × (Int × (List Int)))))) (fun s3 =>
        (cond (ilt s3.1 (n2i (xlen s3.2.2.2.2)))
          (Option.bind (F_s_l16Add (s3.2.2.2, s3.1)) fun r5 =>
            (some (.inl ((iadd .i64 s3.1 2), (s3.2.1, (s3.2.2.1, r5))))))
          (some (.inr s3.2.2.2))))
        (1, (0, (([] : (List Int)), r1))))
      (iter (σ := (Int × (Int × ((List Int) × (Int × (List Int)))))) (fun s3 =>
        (cond (ilt s3.1 (n2i (xlen s3.2.2.2.2)))
          (Option.bind (F_s_l16Add (s3.2.2.2, s3.1)) fun r5 =>
            (some (.inl ((iadd .i64 s3.1 2), (s3.2.1, (s3.2.2.1, r5))))))
          (some (.inr s3.2.2.2))))
        (2, (0, (([] : (List Int)), r1))))))

noncomputable def F_s_RunHalves (x : ((Int × (List Int)) × Int)) : Option ((List Int) × Int) :=
  (Option.bind (F_s_l16Code (x.1, x.2)) fun r1 =>
    (cond (ine r1 0)
      (some (([] : (List Int)), r1))
      (Option.bind (F_s_l16Prepare x.1) fun r3 =>
        (iter (σ := (Int × (Int × ((List Int) × (Int × (List Int)))))) (fun s4 =>
          (cond (ilt s4.2.1 s4.1)
            (chk (okIx 0 (xlen s4.2.2.2.2))
            (chk (okRoom (xlen s4.2.2.1) (xlen ((xget s4.2.2.2.2 (i2n 0) 0) :: ([] : (List Int)))) 8)
            (Option.bind (F_s_l16Half (s4.2.2.2, true)) fun r6 =>
              (Option.bind (F_s_l16Half (r6, false)) fun r7 =>
                (some (.inl (s4.1, ((iadd .i64 s4.2.1 1), ((xapp s4.2.2.1 ((xget s4.2.2.2.2 (i2n 0) 0) :: ([] : (List Int)))), r7)))))))))
            (some (.inr (s4.2.2.1, 0)))))
          (x.2, (0, (([] : (List Int)), r3)))))))

noncomputable def F_i_Engine_back (x : (Int × (List Int))) : Option (Int × (List Int)) :=
  (Option.bind (F_i_Engine_copied x) fun r1 =>
    (Option.bind (F_i_modulus x.1) fun r2 =>
      (iter (σ := (Int × (Int × (Int × ((List Int) × (Int × (List Int))))))) (fun s3 =>
        (cond (ige s3.2.1 0)
          (chk (okIx s3.2.1 (xlen s3.2.2.2.2.2))
          (chk (okIx (iadd .i64 s3.2.1 1) (xlen s3.2.2.2.2.2))
          (chk (okDiv s3.1)
          (chk (okIx s3.2.1 (xlen s3.2.2.2.2.2))
          (some (.inl (s3.1, ((isub .i64 s3.2.1 1), (s3.2.2.1, (s3.2.2.2.1, (s3.2.2.2.2.1, (xset s3.2.2.2.2.2 (i2n s3.2.1) (irem (iadd .i64 (isub .i64 (xget s3.2.2.2.2.2 (i2n s3.2.1) 0) (xget s3.2.2.2.2.2 (i2n (iadd .i64 s3.2.1 1)) 0)) s3.1) s3.1)))))))))))))
          (some (.inr s3.2.2.2.2))))
        (r2, ((isub .i64 (n2i (xlen r1.2)) 2), (0, (([] : (List Int)), r1)))))))

noncomputable def F_i_Engine_prepared (x : (Int × (List Int))) : Option (Int × (List Int)) :=
  (Option.bind (F_i_Engine_copied x) fun r1 =>
    (iter (σ := (Int × (Int × (Int × ((List Int) × (Int × ((List Int) × (Int × (List Int))))))))) (fun s2 =>
      (cond (ilt s2.2.1 s2.1)
        (cond (igt s2.2.1 0)
          (chk (okDiv 2)
          (cond (ieq (irem s2.2.1 2) 0)
            (Option.bind (F_i_Engine_back s2.2.2.2.2.2.2) fun r6 =>
              (chk (okIx s2.2.1 (xlen r6.2))
              (chk (okIx s2.2.1 (xlen s2.2.2.2.2.2.1))
              (some (.inl (s2.1, ((iadd .i64 s2.2.1 1), (s2.2.2.1, (s2.2.2.2.1, (s2.2.2.2.2.1, ((xset s2.2.2.2.2.2.1 (i2n s2.2.1) (xget r6.2 (i2n s2.2.1) 0)), r6)))))))))))
            (chk (okIx s2.2.1 (xlen s2.2.2.2.2.2.2.2))
            (chk (okIx s2.2.1 (xlen s2.2.2.2.2.2.1))
            (some (.inl (s2.1, ((iadd .i64 s2.2.1 1), (s2.2.2.1, (s2.2.2.2.1, (s2.2.2.2.2.1, ((xset s2.2.2.2.2.2.1 (i2n s2.2.1) (xget s2.2.2.2.2.2.2.2 (i2n s2.2.1) 0)), s2.2.2.2.2.2.2))))))))))))
          (chk (okIx s2.2.1 (xlen s2.2.2.2.2.2.2.2))
          (chk (okIx s2.2.1 (xlen s2.2.2.2.2.2.1))
          (some (.inl (s2.1, ((iadd .i64 s2.2.1 1), (s2.2.2.1, (s2.2.2.2.1, (s2.2.2.2.2.1, ((xset s2.2.2.2.2.2.1 (i2n s2.2.1) (xget s2.2.2.2.2.2.2.2 (i2n s2.2.1) 0)), s2.2.2.2.2.2.2)))))))))))
        (some (.inr (s2.2.2.2.2.1, s2.2.2.2.2.2.1)))))
      ((n2i (xlen r1.2)), (0, (0, (([] : (List Int)), (r1.1, (r1.2, x))))))))

noncomputable def F_i_RunHalves (x : ((Int × (List Int)) × Int)) : Option ((List Int) × Int) :=
  (Option.bind (F_i_cyclesCode (x.1, x.2)) fun r1 =>
    (cond (ine r1 0)
      (some (([] : (List Int)), r1))
      (Option.bind (F_i_Engine_prepared x.1) fun r3 =>
        (Option.bind (F_i_Engine_results_b (r3, x.2)) fun r4 =>
          (some (r4, 0))))))

noncomputable def F_l_FnExactRunHalves (x : ((Int × (List Int)) × Int)) : Option Bool :=
  (Option.bind (F_l_szEngine (x.1, 1048576)) fun r1 =>
    (cond (ilt r1 0)
      (some true)
      (Option.bind (F_l_toEngine x.1) fun r3 =>
        (Option.bind (F_s_RunHalves (r3, x.2)) fun r4 =>
          (Option.bind (F_l_toEngine x.1) fun r5 =>
            (Option.bind (F_i_RunHalves (r5, x.2)) fun r6 =>
              (Option.bind (F_l_eqInt64S (r6.1, r4.1)) fun r7 =>
                (cond (bnot r7)
                  (some false)
                  (cond (ine r6.2 r4.2)
                    (some false)
                    (Option.bind (F_l_toEngine x.1) fun r10 =>
                      (Option.bind (F_l_eqEngine (r5, r10)) fun r11 =>
                        (cond (bnot r11)
                          (some false)
                          (Option.bind (F_l_markEngine (r5, 1)) fun r13 =>
                            (cond (ilt r13.1 0)
                              (some false)
                              (Option.bind (F_l_eqInt64S (r6.1, r4.1)) fun r15 =>
                                (cond (bnot r15)
                                  (some false)
                                  (cond (ine r6.2 r4.2)
                                    (some false)
                                    (Option.bind (F_l_markInt64S (r6.1, 1)) fun r18 =>
                                      (Option.bind (F_l_heldInt64S (r18.2, 1)) fun r19 =>
                                        (cond (ilt r19 0)
                                          (some false)
                                          (cond (ine r19 r18.1)
                                            (some false)
                                            (Option.bind (F_l_toEngine x.1) fun r22 =>
                                              (Option.bind (F_i_RunHalves (r22, x.2)) fun r23 =>
                                                (Option.bind (F_l_eqInt64S (r23.1, r4.1)) fun r24 =>
                                                  (cond (bnot r24)
                                                    (some false)
                                                    (cond (ine r23.2 r4.2)
                                                      (some false)
                                                      (Option.bind (F_l_heldInt64S (r18.2, 1)) fun r27 =>
                                                        (cond (ilt r27 0)
                                                          (some false)
                                                          (cond (ine r27 r18.1)
                                                            (some false)
                                                            (some true))))))))))))))))))))))))))))))

noncomputable def F_s_l02New (x : (Int × (Int × Int))) : Option ((Int × (List Int)) × Int) :=
  (iter (σ := (Int × (Int × (Int × (Int × (Int × ((List Int) × (Int × (List Int))))))))) (fun s1 =>
    (cond (ilt s1.2.2.2.1 s1.2.1)
      (chk (okDiv s1.1)
      (chk (okRoom (xlen s1.2.2.2.2.2.2.2) (xlen ((irem s1.2.2.1 s1.1) :: ([] : (List Int)))) 8)
      (chk (okDiv s1.1)
      (some (.inl (s1.1, (s1.2.1, ((iquo .i64 s1.2.2.1 s1.1), ((iadd .i64 s1.2.2.2.1 1), (s1.2.2.2.2.1, (s1.2.2.2.2.2.1, (s1.2.2.2.2.2.2.1, (xapp s1.2.2.2.2.2.2.2 ((irem s1.2.2.1 s1.1) :: ([] : (List Int))))))))))))))))
      (some (.inr (s1.2.2.2.2.2.2, s1.2.2.1)))))
    (x.1, (x.2.1, (x.2.2, (0, (0, (([] : (List Int)), (x.1, ([] : (List Int))))))))))

noncomputable def F_s_l10New (x : (Int × (Int × (Int × Int)))) : Option ((Int × (List Int)) × ((Int × (List Int)) × ((Int × (List Int)) × Int))) :=
  (Option.bind (F_s_l02New (x.1, (x.2.1, 0))) fun r1 =>
    (Option.bind (F_s_l02New (x.1, (x.2.2.1, 0))) fun r2 =>
      (Option.bind (F_s_l02New (x.1, (x.2.2.2, 0))) fun r3 =>
        (some (r1.1, (r2.1, (r3.1, 0)))))))

noncomputable def F_s_l28New (x : Unit) : Option (((Int × (List Int)) × ((Int × (List Int)) × ((Int × (List Int)) × Int))) × ((List (Int × Int)) × ByteArray)) :=
  (Option.bind (F_s_l10New (10, (3, (6, 4)))) fun r1 =>
    (some ((r1.1, (r1.2.1, (r1.2.2.1, r1.2.2.2))), (([] : (List (Int × Int))), (ByteArray.mk #[])))))

noncomputable def F_s_NewDesk (x : Unit) : Option (((Int × (List Int)) × ((Int × (List Int)) × ((Int × (List Int)) × Int))) × ((List (Int × Int)) × ByteArray)) :=
  (Option.bind (F_s_l28New ()) fun r1 =>
    (some ((r1.1.1, (r1.1.2.1, (r1.1.2.2.1, r1.1.2.2.2))), r1.2)))

noncomputable def F_i_power (x : (Int × Int)) : Option Int :=
  (iter (σ := (Int × (Int × (Int × Int)))) (fun s1 =>
    (cond (ilt s1.2.2.2 s1.2.2.1)
      (cond (igt (isub .i64 (imul .i64 s1.2.1 s1.1) 1) 1000000000000)
        (some (.inr 0))
        (some (.inl (s1.1, ((imul .i64 s1.2.1 s1.1), (s1.2.2.1, (iadd .i64 s1.2.2.2 1)))))))
      (some (.inr s1.2.1))))
    (x.1, (1, (x.2, 0))))

noncomputable def F_i_Register_values (x : (Int × (List Int))) : Option Int :=
  (Option.bind (F_i_Register_width x) fun r1 =>
    (Option.bind (F_i_power (x.1, r1)) fun r2 =>
      (some r2)))

noncomputable def F_i_Machine_places (x : ((Int × (List Int)) × ((Int × (List Int)) × ((Int × (List Int)) × Int)))) : Option Int :=
  (Option.bind (F_i_Register_width x.2.1) fun r1 =>
    (Option.bind (F_i_Register_width x.1) fun r2 =>
      (Option.bind (F_i_Register_width x.2.2.1) fun r3 =>
        (some (imin (iadd .i64 (isub .i64 r1 r2) 1) r3)))))

noncomputable def F_i_ValidMachine (x : ((Int × (List Int)) × ((Int × (List Int)) × ((Int × (List Int)) × Int)))) : Option Bool :=
  (Option.bind (F_i_ValidRegister x.1) fun r1 =>
    (cond (bnot r1)
      (some false)
      (Option.bind (F_i_ValidRegister x.2.1) fun r3 =>
        (cond (bnot r3)
          (some false)
          (Option.bind (F_i_ValidRegister x.2.2.1) fun r5 =>
            (cond (bnot r5)
              (some false)
              (cond (ine x.1.1 x.2.1.1)
                (some false)
                (cond (ine x.2.2.1.1 x.2.1.1)
                  (some false)
                  (Option.bind (F_i_Register_values x.2.1) fun r9 =>
                    (cond (ieq r9 0)
                      (some false)
                      (Option.bind (F_i_Register_values x.2.2.1) fun r11 =>
                        (cond (ieq r11 0)
                          (some false)
                          (Option.bind (F_i_Register_width x.1) fun r13 =>
                            (Option.bind (F_i_Register_width x.2.1) fun r14 =>
                              (cond (ile r13 r14)
                                (Option.bind (F_i_Machine_places (x.1, (x.2.1, (x.2.2.1, x.2.2.2)))) fun r16 =>
                                  (Option.bind (F_i_between (x.2.2.2, (0, (isub .i64 r16 1)))) fun r17 =>
                                    (some r17)))
                                (some false))))))))))))))))

noncomputable def F_i_registerOf (x : (Int × (Int × Int))) : Option ((Int × (List Int)) × Bool) :=
  (iter (σ := (Int × (Int × (Int × (Int × (Int × ((List Int) × (Int × (List Int))))))))) (fun s1 =>
    (cond (ilt s1.2.2.2.1 s1.2.2.1)
      (chk (okDiv s1.1)
      (chk (okRoom (xlen s1.2.2.2.2.2.2.2) (xlen ((irem s1.2.1 s1.1) :: ([] : (List Int)))) 8)
      (chk (okDiv s1.1)
      (some (.inl (s1.1, ((iquo .i64 s1.2.1 s1.1), (s1.2.2.1, ((iadd .i64 s1.2.2.2.1 1), (s1.2.2.2.2.1, (s1.2.2.2.2.2.1, (s1.2.2.2.2.2.2.1, (xapp s1.2.2.2.2.2.2.2 ((irem s1.2.1 s1.1) :: ([] : (List Int))))))))))))))))
      (some (.inr (s1.2.2.2.2.2.2, (ieq s1.2.1 0))))))
    (x.1, (x.2.2, (x.2.1, (0, (0, (([] : (List Int)), (x.1, ([] : (List Int))))))))))

noncomputable def F_i_NewMachine (x : (Int × (Int × (Int × Int)))) : Option (((Int × (List Int)) × ((Int × (List Int)) × ((Int × (List Int)) × Int))) × Int) :=
  (Option.bind (F_i_isBase x.1) fun r1 =>
    (cond (bnot r1)
      (some (((0, ([] : (List Int))), ((0, ([] : (List Int))), ((0, ([] : (List Int))), 0))), 2))
      (Option.bind (F_i_isRegisterWidth x.2.1) fun r3 =>
        (cond (bnot r3)
          (some (((0, ([] : (List Int))), ((0, ([] : (List Int))), ((0, ([] : (List Int))), 0))), 2))
          (Option.bind (F_i_isRegisterWidth x.2.2.1) fun r5 =>
            (cond (bnot r5)
              (some (((0, ([] : (List Int))), ((0, ([] : (List Int))), ((0, ([] : (List Int))), 0))), 2))
              (Option.bind (F_i_isRegisterWidth x.2.2.2) fun r7 =>
                (cond (bnot r7)
                  (some (((0, ([] : (List Int))), ((0, ([] : (List Int))), ((0, ([] : (List Int))), 0))), 2))
                  (Option.bind (F_i_registerOf (x.1, (x.2.1, 0))) fun r9 =>
                    (Option.bind (F_i_registerOf (x.1, (x.2.2.1, 0))) fun r10 =>
                      (Option.bind (F_i_registerOf (x.1, (x.2.2.2, 0))) fun r11 =>
                        (Option.bind (F_i_ValidMachine (r9.1, (r10.1, (r11.1, 0)))) fun r12 =>
                          (cond (bnot r12)
                            (some (((0, ([] : (List Int))), ((0, ([] : (List Int))), ((0, ([] : (List Int))), 0))), 2))
                            (some ((r9.1, (r10.1, (r11.1, 0))), 0)))))))))))))))

noncomputable def F_i_NewDesk (x : Unit) : Option (((Int × (List Int)) × ((Int × (List Int)) × ((Int × (List Int)) × Int))) × ((List (Int × Int)) × ByteArray)) :=
  (Option.bind (F_i_NewMachine (10, (3, (6, 4)))) fun r1 =>
    (some ((r1.1.1, (r1.1.2.1, (r1.1.2.2.1, r1.1.2.2.2))), (([] : (List (Int × Int))), (ByteArray.mk #[])))))

noncomputable def F_l_markMachine (x : (((Int × (List Int)) × ((Int × (List Int)) × ((Int × (List Int)) × Int))) × Int)) : Option (Int × ((Int × (List Int)) × ((Int × (List Int)) × ((Int × (List Int)) × Int)))) :=
  (Option.bind (F_l_markRegister (x.1.1, x.2)) fun r1 =>
    (Option.bind (F_l_markRegister (x.1.2.1, r1.1)) fun r2 =>
      (Option.bind (F_l_markRegister (x.1.2.2.1, r2.1)) fun r3 =>
        (some (r3.1, ((x.1.1.1, r1.2.2), ((x.1.2.1.1, r2.2.2), ((x.1.2.2.1.1, r3.2.2), x.1.2.2.2))))))))

noncomputable def F_l_markLeverFaultS (x : ((List (Int × Int)) × Int)) : Option (Int × (List (Int × Int))) :=
  (iter (σ := (Int × (Int × (List (Int × Int))))) (fun s1 =>
    (cond (ilt s1.2.1 (n2i (xlen s1.2.2)))
      (chk (okIx s1.2.1 (xlen s1.2.2))
      (chk (okIx s1.2.1 (xlen (xset s1.2.2 (i2n s1.2.1) (s1.1, (xget s1.2.2 (i2n s1.2.1) (0, 0)).2))))
      (some (.inl ((iadd .i64 (iadd .i64 s1.1 1) 1), ((iadd .i64 s1.2.1 1), (xset (xset s1.2.2 (i2n s1.2.1) (s1.1, (xget s1.2.2 (i2n s1.2.1) (0, 0)).2)) (i2n s1.2.1) ((xget (xset s1.2.2 (i2n s1.2.1) (s1.1, (xget s1.2.2 (i2n s1.2.1) (0, 0)).2)) (i2n s1.2.1) (0, 0)).1, (iadd .i64 s1.1 1)))))))))
      (some (.inr (s1.1, s1.2.2)))))
    (x.2, (0, x.1)))

noncomputable def F_l_markDesk (x : ((((Int × (List Int)) × ((Int × (List Int)) × ((Int × (List Int)) × Int))) × ((List (Int × Int)) × ByteArray)) × Int)) : Option (Int × (((Int × (List Int)) × ((Int × (List Int)) × ((Int × (List Int)) × Int))) × ((List (Int × Int)) × ByteArray))) :=
  (Option.bind (F_l_markMachine ((x.1.1.1, (x.1.1.2.1, (x.1.1.2.2.1, x.1.1.2.2.2))), x.2)) fun r1 =>
    (Option.bind (F_l_markLeverFaultS (x.1.2.1, r1.1)) fun r2 =>
      (some (r2.1, (((x.1.1.1.1, r1.2.1.2), ((x.1.1.2.1.1, r1.2.2.1.2), ((x.1.1.2.2.1.1, r1.2.2.2.1.2), x.1.1.2.2.2))), (r2.2, x.1.2.2))))))

noncomputable def F_l_heldMachine (x : (((Int × (List Int)) × ((Int × (List Int)) × ((Int × (List Int)) × Int))) × Int)) : Option Int :=
  (Option.bind (F_l_heldRegister (x.1.1, x.2)) fun r1 =>
    (cond (ilt r1 0)
      (some (-1))
      (Option.bind (F_l_heldRegister (x.1.2.1, r1)) fun r3 =>
        (cond (ilt r3 0)
          (some (-1))
          (Option.bind (F_l_heldRegister (x.1.2.2.1, r3)) fun r5 =>
            (cond (ilt r5 0)
              (some (-1))
              (some r5)))))))

noncomputable def F_l_heldLeverFaultS (x : ((List (Int × Int)) × Int)) : Option Int :=
  (iter (σ := (Int × (Int × (List (Int × Int))))) (fun s1 =>
    (cond (ilt s1.2.1 (n2i (xlen s1.2.2)))
      (chk (okIx s1.2.1 (xlen s1.2.2))
      (cond (ine (xget s1.2.2 (i2n s1.2.1) (0, 0)).1 s1.1)
        (some (.inr (-1)))
        (chk (okIx s1.2.1 (xlen s1.2.2))
        (cond (ine (xget s1.2.2 (i2n s1.2.1) (0, 0)).2 (iadd .i64 s1.1 1))
          (some (.inr (-1)))
          (some (.inl ((iadd .i64 (iadd .i64 s1.1 1) 1), ((iadd .i64 s1.2.1 1), s1.2.2))))))))
      (some (.inr s1.1))))
    (x.2, (0, x.1)))

noncomputable def F_l_heldDesk (x : ((((Int × (List Int)) × ((Int × (List Int)) × ((Int × (List Int)) × Int))) × ((List (Int × Int)) × ByteArray)) × Int)) : Option Int :=
  (Option.bind (F_l_heldMachine ((x.1.1.1, (x.1.1.2.1, (x.1.1.2.2.1, x.1.1.2.2.2))), x.2)) fun r1 =>
    (cond (ilt r1 0)
      (some (-1))
      (Option.bind (F_l_heldLeverFaultS (x.1.2.1, r1)) fun r3 =>
        (cond (ilt r3 0)
          (some (-1))
          (some r3)))))

noncomputable def F_l_FnExactNewDesk (x : Unit) : Option Bool :=
  (Option.bind (F_s_NewDesk ()) fun r1 =>
    (Option.bind (F_i_NewDesk ()) fun r2 =>
      (Option.bind (F_l_eqDesk (((r2.1.1, (r2.1.2.1, (r2.1.2.2.1, r2.1.2.2.2))), r2.2), ((r1.1.1, (r1.1.2.1, (r1.1.2.2.1, r1.1.2.2.2))), r1.2))) fun r3 =>
        (cond (bnot r3)
          (some false)
          (Option.bind (F_l_markDesk (((r2.1.1, (r2.1.2.1, (r2.1.2.2.1, r2.1.2.2.2))), r2.2), 1)) fun r5 =>
            (Option.bind (F_l_heldDesk ((((r2.1.1.1, r5.2.1.1.2), ((r2.1.2.1.1, r5.2.1.2.1.2), ((r2.1.2.2.1.1, r5.2.1.2.2.1.2), r2.1.2.2.2))), (r5.2.2.1, r2.2.2)), 1)) fun r6 =>
              (cond (ilt r6 0)
                (some false)
                (cond (ine r6 r5.1)
                  (some false)
                  (Option.bind (F_i_NewDesk ()) fun r9 =>
                    (Option.bind (F_l_eqDesk (((r9.1.1, (r9.1.2.1, (r9.1.2.2.1, r9.1.2.2.2))), r9.2), ((r1.1.1, (r1.1.2.1, (r1.1.2.2.1, r1.1.2.2.2))), r1.2))) fun r10 =>
                      (cond (bnot r10)
                        (some false)
                        (Option.bind (F_l_heldDesk ((((r2.1.1.1, r5.2.1.1.2), ((r2.1.2.1.1, r5.2.1.2.1.2), ((r2.1.2.2.1.1, r5.2.1.2.2.1.2), r2.1.2.2.2))), (r5.2.2.1, r2.2.2)), 1)) fun r12 =>
                          (cond (ilt r12 0)
                            (some false)
                            (cond (ine r12 r5.1)
                              (some false)
                              (some true)))))))))))))))

noncomputable def F_s_l10Full (x : (Int × Int)) : Option Bool :=
  (Option.bind (F_s_l10Power x) fun r1 =>
    (some (ile (isub .i64 r1 1) 1000000000000)))

noncomputable def F_s_l10Places (x : ((Int × (List Int)) × ((Int × (List Int)) × ((Int × (List Int)) × Int)))) : Option Int :=
  (Option.bind (F_s_l00Min ((n2i (xlen x.2.2.1.2)), (iadd .i64 (isub .i64 (n2i (xlen x.2.1.2)) (n2i (xlen x.1.2))) 1))) fun r1 =>
    (some r1))

noncomputable def F_s_l10Ok (x : ((Int × (List Int)) × ((Int × (List Int)) × ((Int × (List Int)) × Int)))) : Option Bool :=
  (Option.bind (F_s_l02Ok x.1) fun r1 =>
    (cond (bnot r1)
      (some false)
      (Option.bind (F_s_l02Ok x.2.1) fun r3 =>
        (cond (bnot r3)
          (some false)
          (Option.bind (F_s_l02Ok x.2.2.1) fun r5 =>
            (cond (bnot r5)
              (some false)
              (cond (ine x.1.1 x.2.1.1)
                (some false)
                (cond (ine x.1.1 x.2.2.1.1)
                  (some false)
                  (Option.bind (F_s_l10Full (x.1.1, (n2i (xlen x.2.1.2)))) fun r9 =>
                    (cond (bnot r9)
                      (some false)
                      (Option.bind (F_s_l10Full (x.1.1, (n2i (xlen x.2.2.1.2)))) fun r11 =>
                        (cond (bnot r11)
                          (some false)
                          (cond (ile (n2i (xlen x.1.2)) (n2i (xlen x.2.1.2)))
                            (Option.bind (F_s_l10Places x) fun r14 =>
                              (Option.bind (F_s_l00In (x.2.2.2, (0, (isub .i64 r14 1)))) fun r15 =>
                                (some r15)))
                            (some false))))))))))))))

noncomputable def F_s_l27Digits (x : ((List Int) × (Int × (List Int)))) : Option (List Int) :=
  (chk (okRoom (xlen x.1) (xlen ((iwrap .u8 (isub .i64 (iadd .i64 (imul .i64 16 (isub .i64 x.2.1 1)) (n2i (xlen x.2.2))) 1)) :: ([] : (List Int)))) 1)
  (iter (σ := (Int × ((List Int) × (List (Int × (List Int)))))) (fun s1 =>
    (cond (ilt s1.1 (n2i (xlen (xget s1.2.2 0 (0, ([] : (List Int)))).2)))
      (chk (okIx s1.1 (xlen (xget s1.2.2 0 (0, ([] : (List Int)))).2))
      (cond (ilt (iadd .i64 s1.1 1) (n2i (xlen (xget s1.2.2 0 (0, ([] : (List Int)))).2)))
        (chk (okIx (iadd .i64 s1.1 1) (xlen (xget s1.2.2 0 (0, ([] : (List Int)))).2))
        (chk (okRoom (xlen s1.2.1) (xlen ((iwrap .u8 (iadd .i64 (imul .i64 16 (xget (xget s1.2.2 0 (0, ([] : (List Int)))).2 (i2n s1.1) 0)) (xget (xget s1.2.2 0 (0, ([] : (List Int)))).2 (i2n (iadd .i64 s1.1 1)) 0))) :: ([] : (List Int)))) 1)
        (some (.inl ((iadd .i64 s1.1 2), ((xapp s1.2.1 ((iwrap .u8 (iadd .i64 (imul .i64 16 (xget (xget s1.2.2 0 (0, ([] : (List Int)))).2 (i2n s1.1) 0)) (xget (xget s1.2.2 0 (0, ([] : (List Int)))).2 (i2n (iadd .i64 s1.1 1)) 0))) :: ([] : (List Int)))), s1.2.2))))))
        (chk (okRoom (xlen s1.2.1) (xlen ((iwrap .u8 (imul .i64 16 (xget (xget s1.2.2 0 (0, ([] : (List Int)))).2 (i2n s1.1) 0))) :: ([] : (List Int)))) 1)
        (some (.inl ((iadd .i64 s1.1 2), ((xapp s1.2.1 ((iwrap .u8 (imul .i64 16 (xget (xget s1.2.2 0 (0, ([] : (List Int)))).2 (i2n s1.1) 0))) :: ([] : (List Int)))), s1.2.2)))))))
      (some (.inr s1.2.1))))
    (0, ((xapp x.1 ((iwrap .u8 (isub .i64 (iadd .i64 (imul .i64 16 (isub .i64 x.2.1 1)) (n2i (xlen x.2.2))) 1)) :: ([] : (List Int)))), (x.2 :: ([] : (List (Int × (List Int)))))))))

noncomputable def F_s_l27Ended (x : (List Int)) : Option ByteArray :=
  (Option.bind (F_s_l27Sum (b2s x)) fun r1 =>
    (chk (okDiv 256)
    (chk (okDiv 256)
    (chk (okRoom (xlen x) (xlen ((iwrap .u8 (iquo .i64 r1 256)) :: ((iwrap .u8 (irem r1 256)) :: ([] : (List Int))))) 1)
    (some (b2s (xapp x ((iwrap .u8 (iquo .i64 r1 256)) :: ((iwrap .u8 (irem r1 256)) :: ([] : (List Int)))))))))))

noncomputable def F_s_l27Machine (x : ((Int × (List Int)) × ((Int × (List Int)) × ((Int × (List Int)) × Int)))) : Option ByteArray :=
  (Option.bind (F_s_l27Digits ((77 :: ((iwrap .u8 x.2.2.2) :: ([] : (List Int)))), x.1)) fun r1 =>
    (Option.bind (F_s_l27Digits (r1, x.2.1)) fun r2 =>
      (Option.bind (F_s_l27Digits (r2, x.2.2.1)) fun r3 =>
        (Option.bind (F_s_l27Ended r3) fun r4 =>
          (some r4)))))

noncomputable def F_s_PackMachine (x : ((Int × (List Int)) × ((Int × (List Int)) × ((Int × (List Int)) × Int)))) : Option (ByteArray × Int) :=
  (Option.bind (F_s_l10Ok (x.1, (x.2.1, (x.2.2.1, x.2.2.2)))) fun r1 =>
    (cond (bnot r1)
      (some ((ByteArray.mk #[]), 1))
      (Option.bind (F_s_l27Machine (x.1, (x.2.1, (x.2.2.1, x.2.2.2)))) fun r3 =>
        (some (r3, 0)))))

noncomputable def F_i_PackMachine (x : ((Int × (List Int)) × ((Int × (List Int)) × ((Int × (List Int)) × Int)))) : Option (ByteArray × Int) :=
  (Option.bind (F_i_ValidMachine (x.1, (x.2.1, (x.2.2.1, x.2.2.2)))) fun r1 =>
    (cond (bnot r1)
      (some ((ByteArray.mk #[]), 1))
      (Option.bind (F_i_Register_bytes x.1) fun r3 =>
        (chk (okRoom (xlen (77 :: ((iwrap .u8 x.2.2.2) :: ([] : (List Int))))) (xlen r3) 1)
        (Option.bind (F_i_Register_bytes x.2.1) fun r4 =>
          (chk (okRoom (xlen (xapp (77 :: ((iwrap .u8 x.2.2.2) :: ([] : (List Int)))) r3)) (xlen r4) 1)
          (Option.bind (F_i_Register_bytes x.2.2.1) fun r5 =>
            (chk (okRoom (xlen (xapp (xapp (77 :: ((iwrap .u8 x.2.2.2) :: ([] : (List Int)))) r3) r4)) (xlen r5) 1)
            (Option.bind (F_i_sealed (xapp (xapp (xapp (77 :: ((iwrap .u8 x.2.2.2) :: ([] : (List Int)))) r3) r4) r5)) fun r6 =>
              (some (r6, 0)))))))))))

noncomputable def F_l_FnExactPackMachine (x : ((Int × (List Int)) × ((Int × (List Int)) × ((Int × (List Int)) × Int)))) : Option Bool :=
  (Option.bind (F_l_szMachine ((x.1, (x.2.1, (x.2.2.1, x.2.2.2))), 1048576)) fun r1 =>
    (cond (ilt r1 0)
      (some true)
      (Option.bind (F_l_toMachine (x.1, (x.2.1, (x.2.2.1, x.2.2.2)))) fun r3 =>
        (Option.bind (F_s_PackMachine (r3.1, (r3.2.1, (r3.2.2.1, r3.2.2.2)))) fun r4 =>
          (Option.bind (F_l_toMachine (x.1, (x.2.1, (x.2.2.1, x.2.2.2)))) fun r5 =>
            (Option.bind (F_i_PackMachine (r5.1, (r5.2.1, (r5.2.2.1, r5.2.2.2)))) fun r6 =>
              (cond (sne r6.1 r4.1)
                (some false)
                (cond (ine r6.2 r4.2)
                  (some false)
                  (Option.bind (F_l_toMachine (x.1, (x.2.1, (x.2.2.1, x.2.2.2)))) fun r9 =>
                    (Option.bind (F_l_eqMachine ((r5.1, (r5.2.1, (r5.2.2.1, r5.2.2.2))), (r9.1, (r9.2.1, (r9.2.2.1, r9.2.2.2))))) fun r10 =>
                      (cond (bnot r10)
                        (some false)
                        (some true))))))))))))

noncomputable def F_s_l05Ok (x : (Int × (Int × (Int × Int)))) : Option Bool :=
  (Option.bind (F_s_l00In (x.1, (1, 3))) fun r1 =>
    (cond (bnot r1)
      (some false)
      (Option.bind (F_s_l02Base x.2.1) fun r3 =>
        (cond (bnot r3)
          (some false)
          (Option.bind (F_s_l00In (x.2.2.1, (x.2.1, 60))) fun r5 =>
            (cond (bnot r5)
              (some false)
              (cond (ieq x.1 3)
                (some (ieq x.2.2.2 0))
                (Option.bind (F_s_l00In (x.2.2.2, (1, (iadd .i64 (isub .i64 x.2.2.1 x.2.1) 2)))) fun r8 =>
                  (some r8)))))))))

noncomputable def F_s_l02Two (x : ((Int × (List Int)) × (Int × (List Int)))) : Option Int :=
  (Option.bind (F_s_l02Ok x.1) fun r1 =>
    (cond (bnot r1)
      (some 1)
      (Option.bind (F_s_l02Ok x.2) fun r3 =>
        (cond (bnot r3)
          (some 1)
          (cond (ine x.1.1 x.2.1)
            (some 6)
            (cond (ine (n2i (xlen x.1.2)) (n2i (xlen x.2.2)))
              (some 6)
              (some 0)))))))

noncomputable def F_s_l05Time (x : ((Int × (Int × (Int × Int))) × (Int × Int))) : Option Int :=
  (cond (ieq x.1.1 1)
    (some (iadd .i64 (isub .i64 (isub .i64 (iadd .i64 x.1.2.2.2 x.1.2.1) 1) x.2.1) x.2.2))
    (cond (ieq x.1.1 2)
      (some (iadd .i64 x.1.2.2.2 x.2.2))
      (chk (okDiv x.2.1)
      (some (iquo .i64 (isub .i64 (iadd .i64 (imul .i64 (iadd .i64 x.2.2 1) x.1.2.2.1) x.2.1) 1) x.2.1)))))

noncomputable def F_s_l05By (x : ((Int × (Int × (Int × Int))) × (Int × Int))) : Option Int :=
  (chk (okDiv x.1.2.2.1)
  (iter (σ := (Int × (Int × (Int × (Int × (List (Int × (Int × (Int × Int))))))))) (fun s1 =>
    (cond (ilt s1.2.2.2.1 s1.1)
      (Option.bind (F_s_l05Time ((xget s1.2.2.2.2 0 (0, (0, (0, 0)))), (s1.1, s1.2.2.2.1))) fun r3 =>
        (chk (okDiv (xget s1.2.2.2.2 0 (0, (0, (0, 0)))).2.2.1)
        (cond (ile r3 (irem s1.2.1 (xget s1.2.2.2.2 0 (0, (0, (0, 0)))).2.2.1))
          (some (.inl (s1.1, (s1.2.1, ((iadd .i64 s1.2.2.1 1), ((iadd .i64 s1.2.2.2.1 1), s1.2.2.2.2))))))
          (some (.inl (s1.1, (s1.2.1, (s1.2.2.1, ((iadd .i64 s1.2.2.2.1 1), s1.2.2.2.2)))))))))
      (some (.inr s1.2.2.1))))
    (x.2.1, (x.2.2, ((imul .i64 (iquo .i64 x.2.2 x.1.2.2.1) x.2.1), (0, (x.1 :: ([] : (List (Int × (Int × (Int × Int))))))))))))

noncomputable def F_s_TurnDrums (x : ((Int × (Int × (Int × Int))) × ((Int × (List Int)) × ((Int × (List Int)) × Int)))) : Option ((Int × (List Int)) × Int) :=
  (Option.bind (F_s_l05Ok (x.1.1, (x.1.2.1, x.1.2.2))) fun r1 =>
    (cond (bnot r1)
      (some ((0, ([] : (List Int))), 1))
      (Option.bind (F_s_l02Two (x.2.1, x.2.2.1)) fun r3 =>
        (cond (ine r3 0)
          (some ((0, ([] : (List Int))), r3))
          (cond (ine x.1.2.1 x.2.1.1)
            (some ((0, ([] : (List Int))), 6))
            (Option.bind (F_s_l00In (x.2.2.2, (0, 100000))) fun r6 =>
              (cond (bnot r6)
                (some ((0, ([] : (List Int))), 2))
                (iter (σ := (Int × (Int × (Int × (Int × (Int × (Int × (Int × ((List Int) × (Int × ((List Int) × (Int × ((List Int) × (Int × (List Int))))))))))))))) (fun s8 =>
                  (cond (ilt s8.2.1 (n2i (xlen s8.2.2.2.2.2.2.2.1)))
                    (chk (okIx s8.2.1 (xlen s8.2.2.2.2.2.2.2.2.2.1))
                    (Option.bind (F_s_l05By ((s8.2.2.1, (s8.2.2.2.1, (s8.2.2.2.2.1, s8.2.2.2.2.2.1))), ((xget s8.2.2.2.2.2.2.2.2.2.1 (i2n s8.2.1) 0), s8.1))) fun r10 =>
                      (chk (okIx s8.2.1 (xlen s8.2.2.2.2.2.2.2.1))
                      (chk (okDiv s8.2.2.2.1)
                      (chk (okRoom (xlen s8.2.2.2.2.2.2.2.2.2.2.2.2.2) (xlen ((irem (iadd .i64 (xget s8.2.2.2.2.2.2.2.1 (i2n s8.2.1) 0) r10) s8.2.2.2.1) :: ([] : (List Int)))) 8)
                      (some (.inl (s8.1, ((iadd .i64 s8.2.1 1), (s8.2.2.1, (s8.2.2.2.1, (s8.2.2.2.2.1, (s8.2.2.2.2.2.1, (s8.2.2.2.2.2.2.1, (s8.2.2.2.2.2.2.2.1, (s8.2.2.2.2.2.2.2.2.1, (s8.2.2.2.2.2.2.2.2.2.1, (s8.2.2.2.2.2.2.2.2.2.2.1, (s8.2.2.2.2.2.2.2.2.2.2.2.1, (s8.2.2.2.2.2.2.2.2.2.2.2.2.1, (xapp s8.2.2.2.2.2.2.2.2.2.2.2.2.2 ((irem (iadd .i64 (xget s8.2.2.2.2.2.2.2.1 (i2n s8.2.1) 0) r10) s8.2.2.2.1) :: ([] : (List Int))))))))))))))))))))))))
                    (Option.map Sum.inr
                      (Option.bind (F_s_l02Ok s8.2.2.2.2.2.2.2.2.2.2.2.2) fun r10 =>
                      (cond (bnot r10)
                        (some ((0, ([] : (List Int))), 5))
                        (some (s8.2.2.2.2.2.2.2.2.2.2.2.2, 0)))))))
                  (x.2.2.2, (0, (x.1.1, (x.1.2.1, (x.1.2.2.1, (x.1.2.2.2, (x.2.1.1, (x.2.1.2, (x.2.2.1.1, (x.2.2.1.2, (0, (([] : (List Int)), (x.2.1.1, ([] : (List Int)))))))))))))))))))))))

noncomputable def F_l_toDrum (x : (Int × (Int × (Int × Int)))) : Option (Int × (Int × (Int × Int))) :=
  (some (x.1, (x.2.1, x.2.2)))

noncomputable def F_i_ValidDrum (x : (Int × (Int × (Int × Int)))) : Option Bool :=
  (Option.bind (F_i_between (x.1, (1, 3))) fun r1 =>
    (cond (bnot r1)
      (some false)
      (Option.bind (F_i_isBase x.2.1) fun r3 =>
        (cond (bnot r3)
          (some false)
          (Option.bind (F_i_between (x.2.2.1, (x.2.1, 60))) fun r5 =>
            (cond (bnot r5)
              (some false)
              (cond (ieq x.1 3)
                (some (ieq x.2.2.2 0))
                (Option.bind (F_i_between (x.2.2.2, (1, (iadd .i64 (isub .i64 x.2.2.1 x.2.1) 2)))) fun r8 =>
                  (some r8)))))))))

noncomputable def F_i_isTime (x : Int) : Option Bool :=
  (Option.bind (F_i_between (x, (0, 100000))) fun r1 =>
    (some r1))

noncomputable def F_i_Drum_times (x : ((Int × (Int × (Int × Int))) × Int)) : Option (List Int) :=
  (iter (σ := (Int × (Int × (Int × (Int × (Int × (Int × (Int × (List Int))))))))) (fun s1 =>
    (cond (ilt s1.2.2.1 s1.2.1)
      (cond (ieq s1.2.2.2.1 1)
        (chk (okRoom (xlen s1.2.2.2.2.2.2.2) (xlen ((iadd .i64 (isub .i64 (isub .i64 (iadd .i64 s1.2.2.2.2.2.2.1 s1.2.2.2.2.1) 1) s1.1) s1.2.2.1) :: ([] : (List Int)))) 8)
        (some (.inl (s1.1, (s1.2.1, ((iadd .i64 s1.2.2.1 1), (s1.2.2.2.1, (s1.2.2.2.2.1, (s1.2.2.2.2.2.1, (s1.2.2.2.2.2.2.1, (xapp s1.2.2.2.2.2.2.2 ((iadd .i64 (isub .i64 (isub .i64 (iadd .i64 s1.2.2.2.2.2.2.1 s1.2.2.2.2.1) 1) s1.1) s1.2.2.1) :: ([] : (List Int))))))))))))))
        (cond (ieq s1.2.2.2.1 2)
          (chk (okRoom (xlen s1.2.2.2.2.2.2.2) (xlen ((iadd .i64 s1.2.2.2.2.2.2.1 s1.2.2.1) :: ([] : (List Int)))) 8)
          (some (.inl (s1.1, (s1.2.1, ((iadd .i64 s1.2.2.1 1), (s1.2.2.2.1, (s1.2.2.2.2.1, (s1.2.2.2.2.2.1, (s1.2.2.2.2.2.2.1, (xapp s1.2.2.2.2.2.2.2 ((iadd .i64 s1.2.2.2.2.2.2.1 s1.2.2.1) :: ([] : (List Int))))))))))))))
          (chk (okDiv s1.1)
          (chk (okRoom (xlen s1.2.2.2.2.2.2.2) (xlen ((iquo .i64 (isub .i64 (iadd .i64 (imul .i64 (iadd .i64 s1.2.2.1 1) s1.2.2.2.2.2.1) s1.1) 1) s1.1) :: ([] : (List Int)))) 8)
          (some (.inl (s1.1, (s1.2.1, ((iadd .i64 s1.2.2.1 1), (s1.2.2.2.1, (s1.2.2.2.2.1, (s1.2.2.2.2.2.1, (s1.2.2.2.2.2.2.1, (xapp s1.2.2.2.2.2.2.2 ((iquo .i64 (isub .i64 (iadd .i64 (imul .i64 (iadd .i64 s1.2.2.1 1) s1.2.2.2.2.2.1) s1.1) 1) s1.1) :: ([] : (List Int)))))))))))))))))
      (some (.inr s1.2.2.2.2.2.2.2))))
    (x.2, (x.2, (0, (x.1.1, (x.1.2.1, (x.1.2.2.1, (x.1.2.2.2, ([] : (List Int))))))))))

noncomputable def F_i_Drum_steps (x : ((Int × (Int × (Int × Int))) × (Int × Int))) : Option Int :=
  (chk (okDiv x.1.2.2.1)
  (Option.bind (F_i_Drum_times ((x.1.1, (x.1.2.1, x.1.2.2)), x.2.1)) fun r1 =>
    (iter (σ := (Int × (Int × (Int × (Int × (Int × (Int × (Int × (Int × (List Int)))))))))) (fun s2 =>
      (cond (ilt s2.2.2.2.1 s2.2.2.1)
        (chk (okIx s2.2.2.2.1 (xlen s2.2.2.2.2.2.2.2.2))
        (chk (okDiv s2.2.2.2.2.2.2.1)
        (cond (ile (xget s2.2.2.2.2.2.2.2.2 (i2n s2.2.2.2.1) 0) (irem s2.1 s2.2.2.2.2.2.2.1))
          (some (.inl (s2.1, ((iadd .i64 s2.2.1 1), (s2.2.2.1, ((iadd .i64 s2.2.2.2.1 1), (s2.2.2.2.2.1, (s2.2.2.2.2.2.1, (s2.2.2.2.2.2.2.1, s2.2.2.2.2.2.2.2)))))))))
          (some (.inl (s2.1, (s2.2.1, (s2.2.2.1, ((iadd .i64 s2.2.2.2.1 1), (s2.2.2.2.2.1, (s2.2.2.2.2.2.1, (s2.2.2.2.2.2.2.1, s2.2.2.2.2.2.2.2))))))))))))
        (some (.inr s2.2.1))))
      (x.2.2, ((imul .i64 (iquo .i64 x.2.2 x.1.2.2.1) x.2.1), ((n2i (xlen r1)), (0, (x.1.1, (x.1.2.1, (x.1.2.2.1, (x.1.2.2.2, r1)))))))))))

noncomputable def F_i_sole (x : (Int × (List Int))) : Option ((Int × (List Int)) × Int) :=
  (Option.bind (F_i_ValidRegister x) fun r1 =>
    (cond (bnot r1)
      (some ((0, ([] : (List Int))), 5))
      (some (x, 0))))

noncomputable def F_i_TurnDrums (x : ((Int × (Int × (Int × Int))) × ((Int × (List Int)) × ((Int × (List Int)) × Int)))) : Option ((Int × (List Int)) × Int) :=
  (Option.bind (F_i_ValidDrum (x.1.1, (x.1.2.1, x.1.2.2))) fun r1 =>
    (cond (bnot r1)
      (some ((0, ([] : (List Int))), 1))
      (Option.bind (F_i_ValidRegister x.2.1) fun r3 =>
        (cond (bnot r3)
          (some ((0, ([] : (List Int))), 1))
          (Option.bind (F_i_ValidRegister x.2.2.1) fun r5 =>
            (cond (bnot r5)
              (some ((0, ([] : (List Int))), 1))
              (cond (ine x.2.1.1 x.1.2.1)
                (some ((0, ([] : (List Int))), 6))
                (cond (ine x.2.2.1.1 x.1.2.1)
                  (some ((0, ([] : (List Int))), 6))
                  (Option.bind (F_i_Register_width x.2.1) fun r9 =>
                    (Option.bind (F_i_Register_width x.2.2.1) fun r10 =>
                      (cond (ine r9 r10)
                        (some ((0, ([] : (List Int))), 6))
                        (Option.bind (F_i_isTime x.2.2.2) fun r12 =>
                          (cond (bnot r12)
                            (some ((0, ([] : (List Int))), 2))
                            (iter (σ := (Int × (Int × (Int × (Int × (Int × (Int × (Int × (Int × ((List Int) × (Int × ((List Int) × (Int × ((List Int) × (List Int))))))))))))))) (fun s14 =>
                              (cond (ilt s14.2.2.1 s14.2.1)
                                (chk (okIx s14.2.2.1 (xlen s14.2.2.2.2.2.2.2.2.2.2.2.2.2))
                                (chk (okIx s14.2.2.1 (xlen s14.2.2.2.2.2.2.2.2.1))
                                (Option.bind (F_i_Drum_steps ((s14.2.2.2.1, (s14.2.2.2.2.1, (s14.2.2.2.2.2.1, s14.2.2.2.2.2.2.1))), ((xget s14.2.2.2.2.2.2.2.2.1 (i2n s14.2.2.1) 0), s14.1))) fun r16 =>
                                  (chk (okDiv s14.2.2.2.2.1)
                                  (chk (okRoom (xlen s14.2.2.2.2.2.2.2.2.2.2.2.2.1) (xlen ((irem (iadd .i64 (xget s14.2.2.2.2.2.2.2.2.2.2.2.2.2 (i2n s14.2.2.1) 0) r16) s14.2.2.2.2.1) :: ([] : (List Int)))) 8)
                                  (some (.inl (s14.1, (s14.2.1, ((iadd .i64 s14.2.2.1 1), (s14.2.2.2.1, (s14.2.2.2.2.1, (s14.2.2.2.2.2.1, (s14.2.2.2.2.2.2.1, (s14.2.2.2.2.2.2.2.1, (s14.2.2.2.2.2.2.2.2.1, (s14.2.2.2.2.2.2.2.2.2.1, (s14.2.2.2.2.2.2.2.2.2.2.1, (s14.2.2.2.2.2.2.2.2.2.2.2.1, ((xapp s14.2.2.2.2.2.2.2.2.2.2.2.2.1 ((irem (iadd .i64 (xget s14.2.2.2.2.2.2.2.2.2.2.2.2.2 (i2n s14.2.2.1) 0) r16) s14.2.2.2.2.1) :: ([] : (List Int)))), s14.2.2.2.2.2.2.2.2.2.2.2.2.2))))))))))))))))))))
                                (Option.map Sum.inr
                                  (Option.bind (F_i_sole (s14.2.2.2.2.2.2.2.2.2.2.2.1, s14.2.2.2.2.2.2.2.2.2.2.2.2.1)) fun r16 =>
                                  (some (r16.1, r16.2))))))
                              (x.2.2.2, ((n2i (xlen x.2.1.2)), (0, (x.1.1, (x.1.2.1, (x.1.2.2.1, (x.1.2.2.2, (x.2.2.1.1, (x.2.2.1.2, (0, (([] : (List Int)), (x.1.2.1, (([] : (List Int)), x.2.1.2)))))))))))))))))))))))))))

noncomputable def F_l_FnExactTurnDrums (x : ((Int × (Int × (Int × Int))) × ((Int × (List Int)) × ((Int × (List Int)) × Int)))) : Option Bool :=
  (Option.bind (F_l_szRegister (x.2.1, 1048576)) fun r1 =>
    (cond (ilt r1 0)
      (some true)
      (Option.bind (F_l_szRegister (x.2.2.1, r1)) fun r3 =>
        (cond (ilt r3 0)
          (some true)
          (Option.bind (F_l_toDrum (x.1.1, (x.1.2.1, x.1.2.2))) fun r5 =>
            (Option.bind (F_l_toRegister x.2.1) fun r6 =>
              (Option.bind (F_l_toRegister x.2.2.1) fun r7 =>
                (Option.bind (F_s_TurnDrums ((r5.1, (r5.2.1, r5.2.2)), (r6, (r7, x.2.2.2)))) fun r8 =>
                  (Option.bind (F_l_toRegister x.2.1) fun r9 =>
                    (Option.bind (F_l_toRegister x.2.2.1) fun r10 =>
                      (Option.bind (F_l_toDrum (x.1.1, (x.1.2.1, x.1.2.2))) fun r11 =>
                        (Option.bind (F_i_TurnDrums ((r11.1, (r11.2.1, r11.2.2)), (r9, (r10, x.2.2.2)))) fun r12 =>
                          (Option.bind (F_l_eqRegister (r12.1, r8.1)) fun r13 =>
                            (cond (bnot r13)
                              (some false)
                              (cond (ine r12.2 r8.2)
                                (some false)
                                (Option.bind (F_l_toRegister x.2.1) fun r16 =>
                                  (Option.bind (F_l_eqRegister (r9, r16)) fun r17 =>
                                    (cond (bnot r17)
                                      (some false)
                                      (Option.bind (F_l_toRegister x.2.2.1) fun r19 =>
                                        (Option.bind (F_l_eqRegister (r10, r19)) fun r20 =>
                                          (cond (bnot r20)
                                            (some false)
                                            (Option.bind (F_l_markRegister (r9, 1)) fun r22 =>
                                              (Option.bind (F_l_markRegister (r10, r22.1)) fun r23 =>
                                                (cond (ilt r23.1 0)
                                                  (some false)
                                                  (Option.bind (F_l_eqRegister (r12.1, r8.1)) fun r25 =>
                                                    (cond (bnot r25)
                                                      (some false)
                                                      (cond (ine r12.2 r8.2)
                                                        (some false)
                                                        (Option.bind (F_l_markRegister (r12.1, 1)) fun r28 =>
                                                          (Option.bind (F_l_heldRegister ((r12.1.1, r28.2.2), 1)) fun r29 =>
                                                            (cond (ilt r29 0)
                                                              (some false)
                                                              (cond (ine r29 r28.1)
                                                                (some false)
                                                                (Option.bind (F_l_toDrum (x.1.1, (x.1.2.1, x.1.2.2))) fun r32 =>
                                                                  (Option.bind (F_l_toRegister x.2.1) fun r33 =>
                                                                    (Option.bind (F_l_toRegister x.2.2.1) fun r34 =>
                                                                      (Option.bind (F_i_TurnDrums ((r32.1, (r32.2.1, r32.2.2)), (r33, (r34, x.2.2.2)))) fun r35 =>
                                                                        (Option.bind (F_l_eqRegister (r35.1, r8.1)) fun r36 =>
                                                                          (cond (bnot r36)
                                                                            (some false)
                                                                            (cond (ine r35.2 r8.2)
                                                                              (some false)
                                                                              (Option.bind (F_l_heldRegister ((r12.1.1, r28.2.2), 1)) fun r39 =>
                                                                                (cond (ilt r39 0)
                                                                                  (some false)
                                                                                  (cond (ine r39 r28.1)
                                                                                    (some false)
                                                                                    (some true))))))))))))))))))))))))))))))))))))))))))

noncomputable def F_l_szStringS (x : ((List ByteArray) × Int)) : Option Int :=
  (cond (ilt (isub .i64 x.2 (n2i (xlen x.1))) 0)
    (some (-1))
    (iter (σ := (Int × (Int × (List ByteArray)))) (fun s2 =>
      (cond (ilt s2.2.1 (n2i (xlen s2.2.2)))
        (chk (okIx s2.2.1 (xlen s2.2.2))
        (cond (ilt (isub .i64 s2.1 (n2i (slen (xget s2.2.2 (i2n s2.2.1) (ByteArray.mk #[]))))) 0)
          (some (.inr (-1)))
          (some (.inl ((isub .i64 s2.1 (n2i (slen (xget s2.2.2 (i2n s2.2.1) (ByteArray.mk #[]))))), ((iadd .i64 s2.2.1 1), s2.2.2))))))
        (some (.inr s2.1))))
      ((isub .i64 x.2 (n2i (xlen x.1))), (0, x.1))))

noncomputable def F_l_szEntry (x : ((Int × (ByteArray × (ByteArray × (Int × (List ByteArray))))) × Int)) : Option Int :=
  (cond (ilt (isub .i64 x.2 (n2i (slen x.1.2.1))) 0)
    (some (-1))
    (cond (ilt (isub .i64 (isub .i64 x.2 (n2i (slen x.1.2.1))) (n2i (slen x.1.2.2.1))) 0)
      (some (-1))
      (Option.bind (F_l_szStringS (x.1.2.2.2.2, (isub .i64 (isub .i64 x.2 (n2i (slen x.1.2.1))) (n2i (slen x.1.2.2.1))))) fun r3 =>
        (cond (ilt r3 0)
          (some (-1))
          (some r3)))))

noncomputable def F_l_szEntryS (x : ((List (Int × (ByteArray × (ByteArray × (Int × (List ByteArray)))))) × Int)) : Option Int :=
  (cond (ilt (isub .i64 x.2 (n2i (xlen x.1))) 0)
    (some (-1))
    (iter (σ := (Int × (Int × (List (Int × (ByteArray × (ByteArray × (Int × (List ByteArray))))))))) (fun s2 =>
      (cond (ilt s2.2.1 (n2i (xlen s2.2.2)))
        (chk (okIx s2.2.1 (xlen s2.2.2))
        (Option.bind (F_l_szEntry (((xget s2.2.2 (i2n s2.2.1) (0, ((ByteArray.mk #[]), ((ByteArray.mk #[]), (0, ([] : (List ByteArray))))))).1, ((xget s2.2.2 (i2n s2.2.1) (0, ((ByteArray.mk #[]), ((ByteArray.mk #[]), (0, ([] : (List ByteArray))))))).2.1, ((xget s2.2.2 (i2n s2.2.1) (0, ((ByteArray.mk #[]), ((ByteArray.mk #[]), (0, ([] : (List ByteArray))))))).2.2.1, (xget s2.2.2 (i2n s2.2.1) (0, ((ByteArray.mk #[]), ((ByteArray.mk #[]), (0, ([] : (List ByteArray))))))).2.2.2))), s2.1)) fun r4 =>
          (cond (ilt r4 0)
            (some (.inr (-1)))
            (some (.inl (r4, ((iadd .i64 s2.2.1 1), s2.2.2)))))))
        (some (.inr s2.1))))
      ((isub .i64 x.2 (n2i (xlen x.1))), (0, x.1))))

noncomputable def F_s_l01Small (x : Int) : Option Bool :=
  (cond (ige x 97)
    (some (ile x 122))
    (some false))

noncomputable def F_s_l01Digit (x : Int) : Option Bool :=
  (cond (ige x 48)
    (some (ile x 57))
    (some false))

noncomputable def F_s_IsName (x : ByteArray) : Option Bool :=
  (cond (seq x (ByteArray.mk #[]))
    (some false)
    (cond (igt (n2i (slen x)) 12)
      (some false)
      (chk (okIx 0 (slen x))
      (Option.bind (F_s_l01Small (byteAt x (i2n 0))) fun r3 =>
        (cond (bnot r3)
          (some false)
          (iter (σ := (ByteArray × Int)) (fun s5 =>
            (cond (ilt s5.2 (n2i (slen s5.1)))
              (chk (okIx s5.2 (slen s5.1))
              (Option.bind (F_s_l01Small (byteAt s5.1 (i2n s5.2))) fun r7 =>
                (cond (bnot r7)
                  (chk (okIx s5.2 (slen s5.1))
                  (Option.bind (F_s_l01Digit (byteAt s5.1 (i2n s5.2))) fun r9 =>
                    (cond (bnot r9)
                      (chk (okIx s5.2 (slen s5.1))
                      (cond (ine (byteAt s5.1 (i2n s5.2)) 45)
                        (some (.inr false))
                        (some (.inl (s5.1, (iadd .i64 s5.2 1))))))
                      (some (.inl (s5.1, (iadd .i64 s5.2 1)))))))
                  (some (.inl (s5.1, (iadd .i64 s5.2 1)))))))
              (some (.inr true))))
            (x, 0)))))))

noncomputable def F_s_l25One (x : (Int × (ByteArray × (ByteArray × (Int × (List ByteArray)))))) : Option Bool :=
  (Option.bind (F_s_l00In (x.1, (1, 1000000))) fun r1 =>
    (cond (bnot r1)
      (some false)
      (Option.bind (F_s_IsName x.2.1) fun r3 =>
        (cond (bnot r3)
          (some false)
          (Option.bind (F_s_IsName x.2.2.1) fun r5 =>
            (cond (bnot r5)
              (some false)
              (Option.bind (F_s_l00In (x.2.2.2.1, (1000, 3000))) fun r7 =>
                (cond (bnot r7)
                  (some false)
                  (cond (igt (n2i (xlen x.2.2.2.2)) 8)
                    (some false)
                    (iter (σ := (Int × (List (Int × (ByteArray × (ByteArray × (Int × (List ByteArray)))))))) (fun s10 =>
                      (cond (ilt s10.1 (n2i (xlen (xget s10.2 0 (0, ((ByteArray.mk #[]), ((ByteArray.mk #[]), (0, ([] : (List ByteArray))))))).2.2.2.2)))
                        (chk (okIx s10.1 (xlen (xget s10.2 0 (0, ((ByteArray.mk #[]), ((ByteArray.mk #[]), (0, ([] : (List ByteArray))))))).2.2.2.2))
                        (Option.bind (F_s_IsName (xget (xget s10.2 0 (0, ((ByteArray.mk #[]), ((ByteArray.mk #[]), (0, ([] : (List ByteArray))))))).2.2.2.2 (i2n s10.1) (ByteArray.mk #[]))) fun r12 =>
                          (cond (bnot r12)
                            (some (.inr false))
                            (cond (igt s10.1 0)
                              (chk (okIx (isub .i64 s10.1 1) (xlen (xget s10.2 0 (0, ((ByteArray.mk #[]), ((ByteArray.mk #[]), (0, ([] : (List ByteArray))))))).2.2.2.2))
                              (chk (okIx s10.1 (xlen (xget s10.2 0 (0, ((ByteArray.mk #[]), ((ByteArray.mk #[]), (0, ([] : (List ByteArray))))))).2.2.2.2))
                              (cond (sge (xget (xget s10.2 0 (0, ((ByteArray.mk #[]), ((ByteArray.mk #[]), (0, ([] : (List ByteArray))))))).2.2.2.2 (i2n (isub .i64 s10.1 1)) (ByteArray.mk #[])) (xget (xget s10.2 0 (0, ((ByteArray.mk #[]), ((ByteArray.mk #[]), (0, ([] : (List ByteArray))))))).2.2.2.2 (i2n s10.1) (ByteArray.mk #[])))
                                (some (.inr false))
                                (some (.inl ((iadd .i64 s10.1 1), s10.2))))))
                              (some (.inl ((iadd .i64 s10.1 1), s10.2)))))))
                        (some (.inr true))))
                      (0, (x :: ([] : (List (Int × (ByteArray × (ByteArray × (Int × (List ByteArray)))))))))))))))))))

noncomputable def F_s_l25Ok (x : (List (Int × (ByteArray × (ByteArray × (Int × (List ByteArray))))))) : Option Bool :=
  (iter (σ := (Int × (List (Int × (ByteArray × (ByteArray × (Int × (List ByteArray)))))))) (fun s1 =>
    (cond (ilt s1.1 (n2i (xlen s1.2)))
      (chk (okIx s1.1 (xlen s1.2))
      (Option.bind (F_s_l25One (xget s1.2 (i2n s1.1) (0, ((ByteArray.mk #[]), ((ByteArray.mk #[]), (0, ([] : (List ByteArray)))))))) fun r3 =>
        (cond (bnot r3)
          (some (.inr false))
          (cond (igt s1.1 0)
            (chk (okIx (isub .i64 s1.1 1) (xlen s1.2))
            (chk (okIx s1.1 (xlen s1.2))
            (cond (ige (xget s1.2 (i2n (isub .i64 s1.1 1)) (0, ((ByteArray.mk #[]), ((ByteArray.mk #[]), (0, ([] : (List ByteArray))))))).1 (xget s1.2 (i2n s1.1) (0, ((ByteArray.mk #[]), ((ByteArray.mk #[]), (0, ([] : (List ByteArray))))))).1)
              (some (.inr false))
              (some (.inl ((iadd .i64 s1.1 1), s1.2))))))
            (some (.inl ((iadd .i64 s1.1 1), s1.2)))))))
      (some (.inr (ile (n2i (xlen s1.2)) 50)))))
    (0, x))

noncomputable def F_s_l25Find (x : ((List (Int × (ByteArray × (ByteArray × (Int × (List ByteArray)))))) × Int)) : Option Int :=
  (iter (σ := (Int × (Int × (List (Int × (ByteArray × (ByteArray × (Int × (List ByteArray))))))))) (fun s1 =>
    (cond (ilt s1.2.1 (n2i (xlen s1.2.2)))
      (chk (okIx s1.2.1 (xlen s1.2.2))
      (cond (ieq (xget s1.2.2 (i2n s1.2.1) (0, ((ByteArray.mk #[]), ((ByteArray.mk #[]), (0, ([] : (List ByteArray))))))).1 s1.1)
        (some (.inr s1.2.1))
        (some (.inl (s1.1, ((iadd .i64 s1.2.1 1), s1.2.2))))))
      (some (.inr (-1)))))
    (x.2, (0, x.1)))

noncomputable def F_s_l25Ask (x : ((List (Int × (ByteArray × (ByteArray × (Int × (List ByteArray)))))) × Int)) : Option (Int × Int) :=
  (Option.bind (F_s_l25Ok x.1) fun r1 =>
    (cond (bnot r1)
      (some (0, 1))
      (Option.bind (F_s_l25Find x) fun r3 =>
        (cond (ilt r3 0)
          (some (0, 3))
          (some (r3, 0))))))

noncomputable def F_s_l25Own (x : (Int × (ByteArray × (ByteArray × (Int × (List ByteArray)))))) : Option (Int × (ByteArray × (ByteArray × (Int × (List ByteArray))))) :=
  (chk (okRoom (xlen ([] : (List ByteArray))) (xlen x.2.2.2.2) 16)
  (some (x.1, (x.2.1, (x.2.2.1, (x.2.2.2.1, (xapp ([] : (List ByteArray)) x.2.2.2.2)))))))

noncomputable def F_s_EntryNumbered (x : ((List (Int × (ByteArray × (ByteArray × (Int × (List ByteArray)))))) × Int)) : Option ((Int × (ByteArray × (ByteArray × (Int × (List ByteArray))))) × Int) :=
  (Option.bind (F_s_l25Ask x) fun r1 =>
    (cond (ine r1.2 0)
      (some ((0, ((ByteArray.mk #[]), ((ByteArray.mk #[]), (0, ([] : (List ByteArray)))))), r1.2))
      (chk (okIx r1.1 (xlen x.1))
      (Option.bind (F_s_l25Own (xget x.1 (i2n r1.1) (0, ((ByteArray.mk #[]), ((ByteArray.mk #[]), (0, ([] : (List ByteArray)))))))) fun r3 =>
        (some ((r3.1, (r3.2.1, (r3.2.2.1, r3.2.2.2))), 0))))))

noncomputable def F_l_toStringS (x : (List ByteArray)) : Option (List ByteArray) :=
  (chk (ieq (n2i (xlen x)) (n2i (xlen x)))
  (chk (okMake (n2i (xlen x)) 16)
  (iter (σ := (Int × ((List ByteArray) × (List ByteArray)))) (fun s1 =>
    (cond (ilt s1.1 (n2i (xlen s1.2.1)))
      (chk (okIx s1.1 (xlen s1.2.1))
      (chk (okIx s1.1 (xlen s1.2.2))
      (some (.inl ((iadd .i64 s1.1 1), (s1.2.1, (xset s1.2.2 (i2n s1.1) (xget s1.2.1 (i2n s1.1) (ByteArray.mk #[])))))))))
      (some (.inr s1.2.2))))
    (0, (x, (xrep (i2n (n2i (xlen x))) (ByteArray.mk #[])))))))

noncomputable def F_l_toEntry (x : (Int × (ByteArray × (ByteArray × (Int × (List ByteArray)))))) : Option (Int × (ByteArray × (ByteArray × (Int × (List ByteArray))))) :=
  (Option.bind (F_l_toStringS x.2.2.2.2) fun r1 =>
    (some (x.1, (x.2.1, (x.2.2.1, (x.2.2.2.1, r1))))))

noncomputable def F_l_toEntryS (x : (List (Int × (ByteArray × (ByteArray × (Int × (List ByteArray))))))) : Option (List (Int × (ByteArray × (ByteArray × (Int × (List ByteArray)))))) :=
  (chk (ieq (n2i (xlen x)) (n2i (xlen x)))
  (chk (okMake (n2i (xlen x)) 72)
  (iter (σ := (Int × ((List (Int × (ByteArray × (ByteArray × (Int × (List ByteArray)))))) × (List (Int × (ByteArray × (ByteArray × (Int × (List ByteArray))))))))) (fun s1 =>
    (cond (ilt s1.1 (n2i (xlen s1.2.1)))
      (chk (okIx s1.1 (xlen s1.2.1))
      (Option.bind (F_l_toEntry ((xget s1.2.1 (i2n s1.1) (0, ((ByteArray.mk #[]), ((ByteArray.mk #[]), (0, ([] : (List ByteArray))))))).1, ((xget s1.2.1 (i2n s1.1) (0, ((ByteArray.mk #[]), ((ByteArray.mk #[]), (0, ([] : (List ByteArray))))))).2.1, ((xget s1.2.1 (i2n s1.1) (0, ((ByteArray.mk #[]), ((ByteArray.mk #[]), (0, ([] : (List ByteArray))))))).2.2.1, (xget s1.2.1 (i2n s1.1) (0, ((ByteArray.mk #[]), ((ByteArray.mk #[]), (0, ([] : (List ByteArray))))))).2.2.2)))) fun r3 =>
        (chk (okIx s1.1 (xlen s1.2.2))
        (some (.inl ((iadd .i64 s1.1 1), (s1.2.1, (xset s1.2.2 (i2n s1.1) (r3.1, (r3.2.1, (r3.2.2.1, r3.2.2.2)))))))))))
      (some (.inr s1.2.2))))
    (0, (x, (xrep (i2n (n2i (xlen x))) (0, ((ByteArray.mk #[]), ((ByteArray.mk #[]), (0, ([] : (List ByteArray))))))))))))

noncomputable def F_i_isDigit (x : Int) : Option Bool :=
  (cond (ige x 48)
    (some (ile x 57))
    (some false))

noncomputable def F_i_IsName (x : ByteArray) : Option Bool :=
  (cond (ieq (n2i (slen x)) 0)
    (some false)
    (cond (igt (n2i (slen x)) 12)
      (some false)
      (iter (σ := (ByteArray × (Int × Int))) (fun s3 =>
        (cond (ilt s3.2.2 s3.2.1)
          (chk (okIx s3.2.2 (slen s3.1))
          (cond (ige (byteAt s3.1 (i2n s3.2.2)) 97)
            (chk (okIx s3.2.2 (slen s3.1))
            (cond (bnot (ile (byteAt s3.1 (i2n s3.2.2)) 122))
              (cond (ieq s3.2.2 0)
                (some (.inr false))
                (chk (okIx s3.2.2 (slen s3.1))
                (cond (ine (byteAt s3.1 (i2n s3.2.2)) 45)
                  (chk (okIx s3.2.2 (slen s3.1))
                  (Option.bind (F_i_isDigit (byteAt s3.1 (i2n s3.2.2))) fun r9 =>
                    (cond (bnot r9)
                      (some (.inr false))
                      (some (.inl (s3.1, (s3.2.1, (iadd .i64 s3.2.2 1))))))))
                  (some (.inl (s3.1, (s3.2.1, (iadd .i64 s3.2.2 1))))))))
              (some (.inl (s3.1, (s3.2.1, (iadd .i64 s3.2.2 1)))))))
            (cond (bnot false)
              (cond (ieq s3.2.2 0)
                (some (.inr false))
                (chk (okIx s3.2.2 (slen s3.1))
                (cond (ine (byteAt s3.1 (i2n s3.2.2)) 45)
                  (chk (okIx s3.2.2 (slen s3.1))
                  (Option.bind (F_i_isDigit (byteAt s3.1 (i2n s3.2.2))) fun r9 =>
                    (cond (bnot r9)
                      (some (.inr false))
                      (some (.inl (s3.1, (s3.2.1, (iadd .i64 s3.2.2 1))))))))
                  (some (.inl (s3.1, (s3.2.1, (iadd .i64 s3.2.2 1))))))))
              (some (.inl (s3.1, (s3.2.1, (iadd .i64 s3.2.2 1))))))))
          (some (.inr true))))
        (x, ((n2i (slen x)), 0)))))

noncomputable def F_i_validEntry (x : (Int × (ByteArray × (ByteArray × (Int × (List ByteArray)))))) : Option Bool :=
  (Option.bind (F_i_between (x.1, (1, 1000000))) fun r1 =>
    (cond (bnot r1)
      (some false)
      (Option.bind (F_i_IsName x.2.1) fun r3 =>
        (cond (bnot r3)
          (some false)
          (Option.bind (F_i_IsName x.2.2.1) fun r5 =>
            (cond (bnot r5)
              (some false)
              (Option.bind (F_i_between (x.2.2.2.1, (1000, 3000))) fun r7 =>
                (cond (bnot r7)
                  (some false)
                  (cond (igt (n2i (xlen x.2.2.2.2)) 8)
                    (some false)
                    (iter (σ := (Int × (Int × (Int × (ByteArray × (ByteArray × (Int × (List ByteArray)))))))) (fun s10 =>
                      (cond (ilt s10.2.1 s10.1)
                        (chk (okIx s10.2.1 (xlen s10.2.2.2.2.2.2))
                        (Option.bind (F_i_IsName (xget s10.2.2.2.2.2.2 (i2n s10.2.1) (ByteArray.mk #[]))) fun r12 =>
                          (cond (bnot r12)
                            (some (.inr false))
                            (cond (igt s10.2.1 0)
                              (chk (okIx (isub .i64 s10.2.1 1) (xlen s10.2.2.2.2.2.2))
                              (cond (sle (xget s10.2.2.2.2.2.2 (i2n s10.2.1) (ByteArray.mk #[])) (xget s10.2.2.2.2.2.2 (i2n (isub .i64 s10.2.1 1)) (ByteArray.mk #[])))
                                (some (.inr false))
                                (some (.inl (s10.1, ((iadd .i64 s10.2.1 1), (s10.2.2.1, (s10.2.2.2.1, (s10.2.2.2.2.1, s10.2.2.2.2.2)))))))))
                              (some (.inl (s10.1, ((iadd .i64 s10.2.1 1), (s10.2.2.1, (s10.2.2.2.1, (s10.2.2.2.2.1, s10.2.2.2.2.2)))))))))))
                        (some (.inr true))))
                      ((n2i (xlen x.2.2.2.2)), (0, (x.1, (x.2.1, (x.2.2.1, x.2.2.2)))))))))))))))

noncomputable def F_i_ValidEntries (x : (List (Int × (ByteArray × (ByteArray × (Int × (List ByteArray))))))) : Option Bool :=
  (iter (σ := (Int × (Int × (List (Int × (ByteArray × (ByteArray × (Int × (List ByteArray))))))))) (fun s1 =>
    (cond (ilt s1.2.1 s1.1)
      (chk (okIx s1.2.1 (xlen s1.2.2))
      (Option.bind (F_i_validEntry ((xget s1.2.2 (i2n s1.2.1) (0, ((ByteArray.mk #[]), ((ByteArray.mk #[]), (0, ([] : (List ByteArray))))))).1, ((xget s1.2.2 (i2n s1.2.1) (0, ((ByteArray.mk #[]), ((ByteArray.mk #[]), (0, ([] : (List ByteArray))))))).2.1, ((xget s1.2.2 (i2n s1.2.1) (0, ((ByteArray.mk #[]), ((ByteArray.mk #[]), (0, ([] : (List ByteArray))))))).2.2.1, (xget s1.2.2 (i2n s1.2.1) (0, ((ByteArray.mk #[]), ((ByteArray.mk #[]), (0, ([] : (List ByteArray))))))).2.2.2)))) fun r3 =>
        (cond (bnot r3)
          (some (.inr false))
          (cond (igt s1.2.1 0)
            (chk (okIx (isub .i64 s1.2.1 1) (xlen s1.2.2))
            (cond (ile (xget s1.2.2 (i2n s1.2.1) (0, ((ByteArray.mk #[]), ((ByteArray.mk #[]), (0, ([] : (List ByteArray))))))).1 (xget s1.2.2 (i2n (isub .i64 s1.2.1 1)) (0, ((ByteArray.mk #[]), ((ByteArray.mk #[]), (0, ([] : (List ByteArray))))))).1)
              (some (.inr false))
              (some (.inl (s1.1, ((iadd .i64 s1.2.1 1), s1.2.2))))))
            (some (.inl (s1.1, ((iadd .i64 s1.2.1 1), s1.2.2))))))))
      (some (.inr (ile (n2i (xlen s1.2.2)) 50)))))
    ((n2i (xlen x)), (0, x)))

noncomputable def F_i_entryAt (x : ((List (Int × (ByteArray × (ByteArray × (Int × (List ByteArray)))))) × Int)) : Option Int :=
  (iter (σ := (Int × (Int × (Int × (List (Int × (ByteArray × (ByteArray × (Int × (List ByteArray)))))))))) (fun s1 =>
    (cond (ilt s1.2.2.1 s1.2.1)
      (chk (okIx s1.2.2.1 (xlen s1.2.2.2))
      (cond (ieq (xget s1.2.2.2 (i2n s1.2.2.1) (0, ((ByteArray.mk #[]), ((ByteArray.mk #[]), (0, ([] : (List ByteArray))))))).1 s1.1)
        (some (.inr s1.2.2.1))
        (some (.inl (s1.1, (s1.2.1, ((iadd .i64 s1.2.2.1 1), s1.2.2.2)))))))
      (some (.inr (-1)))))
    (x.2, ((n2i (xlen x.1)), (0, x.1))))

noncomputable def F_i_Entry_copied (x : (Int × (ByteArray × (ByteArray × (Int × (List ByteArray)))))) : Option (Int × (ByteArray × (ByteArray × (Int × (List ByteArray))))) :=
  (chk (okRoom (xlen ([] : (List ByteArray))) (xlen x.2.2.2.2) 16)
  (some (x.1, (x.2.1, (x.2.2.1, (x.2.2.2.1, (xapp ([] : (List ByteArray)) x.2.2.2.2)))))))

noncomputable def F_i_EntryNumbered (x : ((List (Int × (ByteArray × (ByteArray × (Int × (List ByteArray)))))) × Int)) : Option ((Int × (ByteArray × (ByteArray × (Int × (List ByteArray))))) × Int) :=
  (Option.bind (F_i_ValidEntries x.1) fun r1 =>
    (cond (bnot r1)
      (some ((0, ((ByteArray.mk #[]), ((ByteArray.mk #[]), (0, ([] : (List ByteArray)))))), 1))
      (Option.bind (F_i_entryAt x) fun r3 =>
        (cond (ilt r3 0)
          (some ((0, ((ByteArray.mk #[]), ((ByteArray.mk #[]), (0, ([] : (List ByteArray)))))), 3))
          (chk (okIx r3 (xlen x.1))
          (Option.bind (F_i_Entry_copied ((xget x.1 (i2n r3) (0, ((ByteArray.mk #[]), ((ByteArray.mk #[]), (0, ([] : (List ByteArray))))))).1, ((xget x.1 (i2n r3) (0, ((ByteArray.mk #[]), ((ByteArray.mk #[]), (0, ([] : (List ByteArray))))))).2.1, ((xget x.1 (i2n r3) (0, ((ByteArray.mk #[]), ((ByteArray.mk #[]), (0, ([] : (List ByteArray))))))).2.2.1, (xget x.1 (i2n r3) (0, ((ByteArray.mk #[]), ((ByteArray.mk #[]), (0, ([] : (List ByteArray))))))).2.2.2)))) fun r5 =>
            (some ((r5.1, (r5.2.1, (r5.2.2.1, r5.2.2.2))), 0))))))))

noncomputable def F_l_eqStringS (x : ((List ByteArray) × (List ByteArray))) : Option Bool :=
  (cond (ine (n2i (xlen x.1)) (n2i (xlen x.2)))
    (some false)
    (iter (σ := (Int × ((List ByteArray) × (List ByteArray)))) (fun s2 =>
      (cond (ilt s2.1 (n2i (xlen s2.2.1)))
        (chk (okIx s2.1 (xlen s2.2.1))
        (chk (okIx s2.1 (xlen s2.2.2))
        (cond (sne (xget s2.2.1 (i2n s2.1) (ByteArray.mk #[])) (xget s2.2.2 (i2n s2.1) (ByteArray.mk #[])))
          (some (.inr false))
          (some (.inl ((iadd .i64 s2.1 1), s2.2))))))
        (some (.inr true))))
      (0, x)))

noncomputable def F_l_eqEntry (x : ((Int × (ByteArray × (ByteArray × (Int × (List ByteArray))))) × (Int × (ByteArray × (ByteArray × (Int × (List ByteArray))))))) : Option Bool :=
  (cond (ine x.1.1 x.2.1)
    (some false)
    (cond (sne x.1.2.1 x.2.2.1)
      (some false)
      (cond (sne x.1.2.2.1 x.2.2.2.1)
        (some false)
        (cond (ine x.1.2.2.2.1 x.2.2.2.2.1)
          (some false)
          (Option.bind (F_l_eqStringS (x.1.2.2.2.2, x.2.2.2.2.2)) fun r5 =>
            (cond (bnot r5)
              (some false)
              (some true)))))))

noncomputable def F_l_eqEntryS (x : ((List (Int × (ByteArray × (ByteArray × (Int × (List ByteArray)))))) × (List (Int × (ByteArray × (ByteArray × (Int × (List ByteArray)))))))) : Option Bool :=
  (cond (ine (n2i (xlen x.1)) (n2i (xlen x.2)))
    (some false)
    (iter (σ := (Int × ((List (Int × (ByteArray × (ByteArray × (Int × (List ByteArray)))))) × (List (Int × (ByteArray × (ByteArray × (Int × (List ByteArray))))))))) (fun s2 =>
      (cond (ilt s2.1 (n2i (xlen s2.2.1)))
        (chk (okIx s2.1 (xlen s2.2.1))
        (chk (okIx s2.1 (xlen s2.2.2))
        (Option.bind (F_l_eqEntry (((xget s2.2.1 (i2n s2.1) (0, ((ByteArray.mk #[]), ((ByteArray.mk #[]), (0, ([] : (List ByteArray))))))).1, ((xget s2.2.1 (i2n s2.1) (0, ((ByteArray.mk #[]), ((ByteArray.mk #[]), (0, ([] : (List ByteArray))))))).2.1, ((xget s2.2.1 (i2n s2.1) (0, ((ByteArray.mk #[]), ((ByteArray.mk #[]), (0, ([] : (List ByteArray))))))).2.2.1, (xget s2.2.1 (i2n s2.1) (0, ((ByteArray.mk #[]), ((ByteArray.mk #[]), (0, ([] : (List ByteArray))))))).2.2.2))), ((xget s2.2.2 (i2n s2.1) (0, ((ByteArray.mk #[]), ((ByteArray.mk #[]), (0, ([] : (List ByteArray))))))).1, ((xget s2.2.2 (i2n s2.1) (0, ((ByteArray.mk #[]), ((ByteArray.mk #[]), (0, ([] : (List ByteArray))))))).2.1, ((xget s2.2.2 (i2n s2.1) (0, ((ByteArray.mk #[]), ((ByteArray.mk #[]), (0, ([] : (List ByteArray))))))).2.2.1, (xget s2.2.2 (i2n s2.1) (0, ((ByteArray.mk #[]), ((ByteArray.mk #[]), (0, ([] : (List ByteArray))))))).2.2.2))))) fun r4 =>
          (cond (bnot r4)
            (some (.inr false))
            (some (.inl ((iadd .i64 s2.1 1), s2.2)))))))
        (some (.inr true))))
      (0, x)))

noncomputable def F_l_markText (x : Int) : Option (ByteArray × Int) :=
  (cond (ile x 0)
    (some ((ByteArray.mk #[109, 48]), x))
    (iter (σ := (Int × (ByteArray × Int))) (fun s2 =>
      (cond (igt s2.1 0)
        (chk (okDiv 10)
        (chk (okCat (slen (b2s ((iwrap .u8 (iadd .i64 48 (irem s2.1 10))) :: ([] : (List Int))))) (slen s2.2.1))
        (chk (okDiv 10)
        (some (.inl ((iquo .i64 s2.1 10), ((sadd (b2s ((iwrap .u8 (iadd .i64 48 (irem s2.1 10))) :: ([] : (List Int)))) s2.2.1), s2.2.2)))))))
        (Option.map Sum.inr
          (chk (okCat (slen (ByteArray.mk #[109])) (slen s2.2.1))
        (some ((sadd (ByteArray.mk #[109]) s2.2.1), s2.2.2))))))
      (x, ((ByteArray.mk #[]), x))))

noncomputable def F_l_markStringS (x : ((List ByteArray) × Int)) : Option (Int × (List ByteArray)) :=
  (iter (σ := (Int × (Int × (List ByteArray)))) (fun s1 =>
    (cond (ilt s1.2.1 (n2i (xlen s1.2.2)))
      (Option.bind (F_l_markText s1.1) fun r3 =>
        (chk (okIx s1.2.1 (xlen s1.2.2))
        (some (.inl ((iadd .i64 s1.1 1), ((iadd .i64 s1.2.1 1), (xset s1.2.2 (i2n s1.2.1) r3.1)))))))
      (some (.inr (s1.1, s1.2.2)))))
    (x.2, (0, x.1)))

noncomputable def F_l_markEntryS (x : ((List (Int × (ByteArray × (ByteArray × (Int × (List ByteArray)))))) × Int)) : Option (Int × (List (Int × (ByteArray × (ByteArray × (Int × (List ByteArray))))))) :=
  (iter (σ := (Int × (Int × (List (Int × (ByteArray × (ByteArray × (Int × (List ByteArray))))))))) (fun s1 =>
    (cond (ilt s1.2.1 (n2i (xlen s1.2.2)))
      (chk (okIx s1.2.1 (xlen s1.2.2))
      none)
      (some (.inr (s1.1, s1.2.2)))))
    (x.2, (0, x.1)))

noncomputable def F_l_markEntry (x : ((Int × (ByteArray × (ByteArray × (Int × (List ByteArray))))) × Int)) : Option (Int × (Int × (ByteArray × (ByteArray × (Int × (List ByteArray)))))) :=
  (Option.bind (F_l_markStringS (x.1.2.2.2.2, x.2)) fun r1 =>
    (some (r1.1, (x.1.1, (x.1.2.1, (x.1.2.2.1, (x.1.2.2.2.1, r1.2)))))))

noncomputable def F_l_heldStringS (x : ((List ByteArray) × Int)) : Option Int :=
  (iter (σ := (Int × (Int × (List ByteArray)))) (fun s1 =>
    (cond (ilt s1.2.1 (n2i (xlen s1.2.2)))
      (chk (okIx s1.2.1 (xlen s1.2.2))
      (Option.bind (F_l_markText s1.1) fun r3 =>
        (cond (sne (xget s1.2.2 (i2n s1.2.1) (ByteArray.mk #[])) r3.1)
          (some (.inr (-1)))
          (some (.inl ((iadd .i64 s1.1 1), ((iadd .i64 s1.2.1 1), s1.2.2)))))))
      (some (.inr s1.1))))
    (x.2, (0, x.1)))

noncomputable def F_l_heldEntry (x : ((Int × (ByteArray × (ByteArray × (Int × (List ByteArray))))) × Int)) : Option Int :=
  (Option.bind (F_l_heldStringS (x.1.2.2.2.2, x.2)) fun r1 =>
    (cond (ilt r1 0)
      (some (-1))
      (some r1)))

noncomputable def F_l_FnExactEntryNumbered (x : ((List (Int × (ByteArray × (ByteArray × (Int × (List ByteArray)))))) × Int)) : Option Bool :=
  (Option.bind (F_l_szEntryS (x.1, 1048576)) fun r1 =>
    (cond (ilt r1 0)
      (some true)
      (Option.bind (F_l_toEntryS x.1) fun r3 =>
        (Option.bind (F_s_EntryNumbered (r3, x.2)) fun r4 =>
          (Option.bind (F_l_toEntryS x.1) fun r5 =>
            (Option.bind (F_i_EntryNumbered (r5, x.2)) fun r6 =>
              (Option.bind (F_l_eqEntry ((r6.1.1, (r6.1.2.1, (r6.1.2.2.1, r6.1.2.2.2))), (r4.1.1, (r4.1.2.1, (r4.1.2.2.1, r4.1.2.2.2))))) fun r7 =>
                (cond (bnot r7)
                  (some false)
                  (cond (ine r6.2 r4.2)
                    (some false)
                    (Option.bind (F_l_toEntryS x.1) fun r10 =>
                      (Option.bind (F_l_eqEntryS (r5, r10)) fun r11 =>
                        (cond (bnot r11)
                          (some false)
                          (Option.bind (F_l_markEntryS (r5, 1)) fun r13 =>
                            (cond (ilt r13.1 0)
                              (some false)
                              (Option.bind (F_l_eqEntry ((r6.1.1, (r6.1.2.1, (r6.1.2.2.1, r6.1.2.2.2))), (r4.1.1, (r4.1.2.1, (r4.1.2.2.1, r4.1.2.2.2))))) fun r15 =>
                                (cond (bnot r15)
                                  (some false)
                                  (cond (ine r6.2 r4.2)
                                    (some false)
                                    (Option.bind (F_l_markEntry ((r6.1.1, (r6.1.2.1, (r6.1.2.2.1, r6.1.2.2.2))), 1)) fun r18 =>
                                      (Option.bind (F_l_heldEntry ((r6.1.1, (r6.1.2.1, (r6.1.2.2.1, (r6.1.2.2.2.1, r18.2.2.2.2.2)))), 1)) fun r19 =>
                                        (cond (ilt r19 0)
                                          (some false)
                                          (cond (ine r19 r18.1)
                                            (some false)
                                            (Option.bind (F_l_toEntryS x.1) fun r22 =>
                                              (Option.bind (F_i_EntryNumbered (r22, x.2)) fun r23 =>
                                                (Option.bind (F_l_eqEntry ((r23.1.1, (r23.1.2.1, (r23.1.2.2.1, r23.1.2.2.2))), (r4.1.1, (r4.1.2.1, (r4.1.2.2.1, r4.1.2.2.2))))) fun r24 =>
                                                  (cond (bnot r24)
                                                    (some false)
                                                    (cond (ine r23.2 r4.2)
                                                      (some false)
                                                      (Option.bind (F_l_heldEntry ((r6.1.1, (r6.1.2.1, (r6.1.2.2.1, (r6.1.2.2.2.1, r18.2.2.2.2.2)))), 1)) fun r27 =>
                                                        (cond (ilt r27 0)
                                                          (some false)
                                                          (cond (ine r27 r18.1)
                                                            (some false)
                                                            (some true))))))))))))))))))))))))))))))

noncomputable def F_s_UnpackMachine (x : ByteArray) : Option (((Int × (List Int)) × ((Int × (List Int)) × ((Int × (List Int)) × Int))) × Int) :=
  (Option.bind (F_s_l27Body (x, 77)) fun r1 =>
    (cond (bnot r1.2)
      (some (((0, ([] : (List Int))), ((0, ([] : (List Int))), ((0, ([] : (List Int))), 0))), 8))
      (cond (seq r1.1 (ByteArray.mk #[]))
        (some (((0, ([] : (List Int))), ((0, ([] : (List Int))), ((0, ([] : (List Int))), 0))), 8))
        (chk (okTo 1 (slen r1.1))
        (Option.bind (F_s_l27Register (ssub r1.1 (i2n 1) (slen r1.1))) fun r4 =>
          (Option.bind (F_s_l27Register r4.2.1) fun r5 =>
            (Option.bind (F_s_l27Register r5.2.1) fun r6 =>
              (chk (okIx 0 (slen r1.1))
              (cond (bnot r4.2.2)
                (some (((0, ([] : (List Int))), ((0, ([] : (List Int))), ((0, ([] : (List Int))), 0))), 8))
                (cond (bnot r5.2.2)
                  (some (((0, ([] : (List Int))), ((0, ([] : (List Int))), ((0, ([] : (List Int))), 0))), 8))
                  (cond (bnot r6.2.2)
                    (some (((0, ([] : (List Int))), ((0, ([] : (List Int))), ((0, ([] : (List Int))), 0))), 8))
                    (cond (sne r6.2.1 (ByteArray.mk #[]))
                      (some (((0, ([] : (List Int))), ((0, ([] : (List Int))), ((0, ([] : (List Int))), 0))), 8))
                      (Option.bind (F_s_l10Ok (r4.1, (r5.1, (r6.1, (iwrap .i64 (byteAt r1.1 (i2n 0))))))) fun r11 =>
                        (cond (bnot r11)
                          (some (((0, ([] : (List Int))), ((0, ([] : (List Int))), ((0, ([] : (List Int))), 0))), 8))
                          (some ((r4.1, (r5.1, (r6.1, (iwrap .i64 (byteAt r1.1 (i2n 0)))))), 0))))))))))))))))

noncomputable def F_i_UnpackMachine (x : ByteArray) : Option (((Int × (List Int)) × ((Int × (List Int)) × ((Int × (List Int)) × Int))) × Int) :=
  (cond (ilt (n2i (slen x)) 2)
    (some (((0, ([] : (List Int))), ((0, ([] : (List Int))), ((0, ([] : (List Int))), 0))), 8))
    (chk (okIx 1 (slen x))
    (chk (okTo 2 (slen x))
    none)))

noncomputable def F_l_FnExactUnpackMachine (x : ByteArray) : Option Bool :=
  (cond (igt (n2i (slen x)) 1048576)
    (some true)
    (Option.bind (F_s_UnpackMachine x) fun r2 =>
      (Option.bind (F_i_UnpackMachine x) fun r3 =>
        (Option.bind (F_l_eqMachine ((r3.1.1, (r3.1.2.1, (r3.1.2.2.1, r3.1.2.2.2))), (r2.1.1, (r2.1.2.1, (r2.1.2.2.1, r2.1.2.2.2))))) fun r4 =>
          (cond (bnot r4)
            (some false)
            (cond (ine r3.2 r2.2)
              (some false)
              (Option.bind (F_l_markMachine ((r3.1.1, (r3.1.2.1, (r3.1.2.2.1, r3.1.2.2.2))), 1)) fun r7 =>
                (Option.bind (F_l_heldMachine (((r3.1.1.1, r7.2.1.2), ((r3.1.2.1.1, r7.2.2.1.2), ((r3.1.2.2.1.1, r7.2.2.2.1.2), r3.1.2.2.2))), 1)) fun r8 =>
                  (cond (ilt r8 0)
                    (some false)
                    (cond (ine r8 r7.1)
                      (some false)
                      (Option.bind (F_i_UnpackMachine x) fun r11 =>
                        (Option.bind (F_l_eqMachine ((r11.1.1, (r11.1.2.1, (r11.1.2.2.1, r11.1.2.2.2))), (r2.1.1, (r2.1.2.1, (r2.1.2.2.1, r2.1.2.2.2))))) fun r12 =>
                          (cond (bnot r12)
                            (some false)
                            (cond (ine r11.2 r2.2)
                              (some false)
                              (Option.bind (F_l_heldMachine (((r3.1.1.1, r7.2.1.2), ((r3.1.2.1.1, r7.2.2.1.2), ((r3.1.2.2.1.1, r7.2.2.2.1.2), r3.1.2.2.2))), 1)) fun r15 =>
                                (cond (ilt r15 0)
                                  (some false)
                                  (cond (ine r15 r7.1)
                                    (some false)
                                    (some true))))))))))))))))))

noncomputable def F_s_l07Size (x : Int) : Option Bool :=
  (Option.bind (F_s_l00In (x, (1, 16))) fun r1 =>
    (some r1))

noncomputable def F_s_NewMachine (x : (Int × (Int × (Int × Int)))) : Option (((Int × (List Int)) × ((Int × (List Int)) × ((Int × (List Int)) × Int))) × Int) :=
  (Option.bind (F_s_l02Base x.1) fun r1 =>
    (cond (bnot r1)
      (some (((0, ([] : (List Int))), ((0, ([] : (List Int))), ((0, ([] : (List Int))), 0))), 2))
      (Option.bind (F_s_l07Size x.2.1) fun r3 =>
        (cond (bnot r3)
          (some (((0, ([] : (List Int))), ((0, ([] : (List Int))), ((0, ([] : (List Int))), 0))), 2))
          (Option.bind (F_s_l07Size x.2.2.1) fun r5 =>
            (cond (bnot r5)
              (some (((0, ([] : (List Int))), ((0, ([] : (List Int))), ((0, ([] : (List Int))), 0))), 2))
              (Option.bind (F_s_l07Size x.2.2.2) fun r7 =>
                (cond (bnot r7)
                  (some (((0, ([] : (List Int))), ((0, ([] : (List Int))), ((0, ([] : (List Int))), 0))), 2))
                  (Option.bind (F_s_l10New (x.1, (x.2.1, x.2.2))) fun r9 =>
                    (Option.bind (F_s_l10Ok (r9.1, (r9.2.1, (r9.2.2.1, r9.2.2.2)))) fun r10 =>
                      (cond (bnot r10)
                        (some (((0, ([] : (List Int))), ((0, ([] : (List Int))), ((0, ([] : (List Int))), 0))), 2))
                        (some ((r9.1, (r9.2.1, (r9.2.2.1, r9.2.2.2))), 0)))))))))))))

noncomputable def F_s_l14Size (x : (Int × (Int × (Int × Int)))) : Option Int :=
  (Option.bind (F_s_NewMachine (x.1, (x.2.1, x.2.2))) fun r1 =>
    (cond (ine r1.2 0)
      (some r1.2)
      (Option.bind (F_s_l10Power (x.1, x.2.1)) fun r3 =>
        (Option.bind (F_s_l10Power (x.1, x.2.2.1)) fun r4 =>
          (chk (okDiv r4)
          (cond (igt r3 (iquo .i64 256 r4))
            (some 5)
            (some 0)))))))

noncomputable def F_s_l14At (x : (Int × (Int × (Int × (Int × Int))))) : Option ((Int × (List Int)) × ((Int × (List Int)) × ((Int × (List Int)) × Int))) :=
  (Option.bind (F_s_l10New (x.1, (x.2.1, (x.2.2.1, x.2.2.2.1)))) fun r1 =>
    (Option.bind (F_s_l10Power (x.1, x.2.2.1)) fun r2 =>
      (chk (okDiv r2)
      (Option.bind (F_s_l02New (x.1, (x.2.1, (iquo .i64 x.2.2.2.2 r2)))) fun r3 =>
        (Option.bind (F_s_l10Power (x.1, x.2.2.1)) fun r4 =>
          (chk (okDiv r4)
          (Option.bind (F_s_l02New (x.1, (x.2.2.1, (irem x.2.2.2.2 r4)))) fun r5 =>
            (some (r3.1, (r5.1, (r1.2.2.1, r1.2.2.2)))))))))))

noncomputable def F_s_InputAt (x : (Int × (Int × (Int × (Int × Int))))) : Option (((Int × (List Int)) × ((Int × (List Int)) × ((Int × (List Int)) × Int))) × Int) :=
  (Option.bind (F_s_l14Size (x.1, (x.2.1, (x.2.2.1, x.2.2.2.1)))) fun r1 =>
    (cond (ine r1 0)
      (some (((0, ([] : (List Int))), ((0, ([] : (List Int))), ((0, ([] : (List Int))), 0))), r1))
      (Option.bind (F_s_l10Power (x.1, x.2.1)) fun r3 =>
        (Option.bind (F_s_l10Power (x.1, x.2.2.1)) fun r4 =>
          (Option.bind (F_s_l00In (x.2.2.2.2, (0, (isub .i64 (imul .i64 r3 r4) 1)))) fun r5 =>
            (cond (bnot r5)
              (some (((0, ([] : (List Int))), ((0, ([] : (List Int))), ((0, ([] : (List Int))), 0))), 3))
              (Option.bind (F_s_l14At (x.1, (x.2.1, (x.2.2.1, x.2.2.2)))) fun r7 =>
                (some ((r7.1, (r7.2.1, (r7.2.2.1, r7.2.2.2))), 0)))))))))

noncomputable def F_i_inputsOf (x : (Int × (Int × (Int × Int)))) : Option ((((Int × (List Int)) × ((Int × (List Int)) × ((Int × (List Int)) × Int))) × Int) × Int) :=
  (Option.bind (F_i_NewMachine (x.1, (x.2.1, x.2.2))) fun r1 =>
    (cond (ine r1.2 0)
      (some ((((0, ([] : (List Int))), ((0, ([] : (List Int))), ((0, ([] : (List Int))), 0))), 0), r1.2))
      (Option.bind (F_i_Register_values r1.1.1) fun r3 =>
        (Option.bind (F_i_Register_values r1.1.2.1) fun r4 =>
          (cond (igt r3 256)
            (some ((((0, ([] : (List Int))), ((0, ([] : (List Int))), ((0, ([] : (List Int))), 0))), 0), 5))
            (cond (igt r4 256)
              (some ((((0, ([] : (List Int))), ((0, ([] : (List Int))), ((0, ([] : (List Int))), 0))), 0), 5))
              (cond (igt (imul .i64 r3 r4) 256)
                (some ((((0, ([] : (List Int))), ((0, ([] : (List Int))), ((0, ([] : (List Int))), 0))), 0), 5))
                (some (((r1.1.1, (r1.1.2.1, (r1.1.2.2.1, r1.1.2.2.2))), (imul .i64 r3 r4)), 0)))))))))

noncomputable def F_i_Register_copied (x : (Int × (List Int))) : Option (Int × (List Int)) :=
  (Option.bind (F_i_copyNumbers x.2) fun r1 =>
    (some (x.1, r1)))

noncomputable def F_i_Machine_copied (x : ((Int × (List Int)) × ((Int × (List Int)) × ((Int × (List Int)) × Int)))) : Option ((Int × (List Int)) × ((Int × (List Int)) × ((Int × (List Int)) × Int))) :=
  (Option.bind (F_i_Register_copied x.1) fun r1 =>
    (Option.bind (F_i_Register_copied x.2.1) fun r2 =>
      (Option.bind (F_i_Register_copied x.2.2.1) fun r3 =>
        (some (r1, (r2, (r3, x.2.2.2)))))))

noncomputable def F_i_Register_withValue (x : ((Int × (List Int)) × Int)) : Option (Int × (List Int)) :=
  (Option.bind (F_i_Register_width x.1) fun r1 =>
    (Option.bind (F_i_registerOf (x.1.1, (r1, x.2))) fun r2 =>
      (some r2.1)))

noncomputable def F_i_inputs_at (x : ((((Int × (List Int)) × ((Int × (List Int)) × ((Int × (List Int)) × Int))) × Int) × Int)) : Option ((Int × (List Int)) × ((Int × (List Int)) × ((Int × (List Int)) × Int))) :=
  (Option.bind (F_i_Register_values x.1.1.2.1) fun r1 =>
    (Option.bind (F_i_Machine_copied (x.1.1.1, (x.1.1.2.1, (x.1.1.2.2.1, x.1.1.2.2.2)))) fun r2 =>
      (chk (okDiv r1)
      (Option.bind (F_i_Register_withValue (r2.1, (iquo .i64 x.2 r1))) fun r3 =>
        (chk (okDiv r1)
        (Option.bind (F_i_Register_withValue (r2.2.1, (irem x.2 r1))) fun r4 =>
          (some (r3, (r4, (r2.2.2.1, r2.2.2.2))))))))))

noncomputable def F_i_InputAt (x : (Int × (Int × (Int × (Int × Int))))) : Option (((Int × (List Int)) × ((Int × (List Int)) × ((Int × (List Int)) × Int))) × Int) :=
  (Option.bind (F_i_inputsOf (x.1, (x.2.1, (x.2.2.1, x.2.2.2.1)))) fun r1 =>
    (cond (ine r1.2 0)
      (some (((0, ([] : (List Int))), ((0, ([] : (List Int))), ((0, ([] : (List Int))), 0))), r1.2))
      (Option.bind (F_i_between (x.2.2.2.2, (0, (isub .i64 r1.1.2 1)))) fun r3 =>
        (cond (bnot r3)
          (some (((0, ([] : (List Int))), ((0, ([] : (List Int))), ((0, ([] : (List Int))), 0))), 3))
          (Option.bind (F_i_inputs_at (((r1.1.1.1, (r1.1.1.2.1, (r1.1.1.2.2.1, r1.1.1.2.2.2))), r1.1.2), x.2.2.2.2)) fun r5 =>
            (some ((r5.1, (r5.2.1, (r5.2.2.1, r5.2.2.2))), 0)))))))

noncomputable def F_l_FnExactInputAt (x : (Int × (Int × (Int × (Int × Int))))) : Option Bool :=
  (Option.bind (F_s_InputAt (x.1, (x.2.1, (x.2.2.1, x.2.2.2)))) fun r1 =>
    (Option.bind (F_i_InputAt (x.1, (x.2.1, (x.2.2.1, x.2.2.2)))) fun r2 =>
      (Option.bind (F_l_eqMachine ((r2.1.1, (r2.1.2.1, (r2.1.2.2.1, r2.1.2.2.2))), (r1.1.1, (r1.1.2.1, (r1.1.2.2.1, r1.1.2.2.2))))) fun r3 =>
        (cond (bnot r3)
          (some false)
          (cond (ine r2.2 r1.2)
            (some false)
            (Option.bind (F_l_markMachine ((r2.1.1, (r2.1.2.1, (r2.1.2.2.1, r2.1.2.2.2))), 1)) fun r6 =>
              (Option.bind (F_l_heldMachine (((r2.1.1.1, r6.2.1.2), ((r2.1.2.1.1, r6.2.2.1.2), ((r2.1.2.2.1.1, r6.2.2.2.1.2), r2.1.2.2.2))), 1)) fun r7 =>
                (cond (ilt r7 0)
                  (some false)
                  (cond (ine r7 r6.1)
                    (some false)
                    (Option.bind (F_i_InputAt (x.1, (x.2.1, (x.2.2.1, x.2.2.2)))) fun r10 =>
                      (Option.bind (F_l_eqMachine ((r10.1.1, (r10.1.2.1, (r10.1.2.2.1, r10.1.2.2.2))), (r1.1.1, (r1.1.2.1, (r1.1.2.2.1, r1.1.2.2.2))))) fun r11 =>
                        (cond (bnot r11)
                          (some false)
                          (cond (ine r10.2 r1.2)
                            (some false)
                            (Option.bind (F_l_heldMachine (((r2.1.1.1, r6.2.1.2), ((r2.1.2.1.1, r6.2.2.1.2), ((r2.1.2.2.1.1, r6.2.2.2.1.2), r2.1.2.2.2))), 1)) fun r14 =>
                              (cond (ilt r14 0)
                                (some false)
                                (cond (ine r14 r6.1)
                                  (some false)
                                  (some true)))))))))))))))))

noncomputable def F_s_l25Copy (x : (List (Int × (ByteArray × (ByteArray × (Int × (List ByteArray))))))) : Option (List (Int × (ByteArray × (ByteArray × (Int × (List ByteArray)))))) :=
  (iter (σ := (Int × ((List (Int × (ByteArray × (ByteArray × (Int × (List ByteArray)))))) × (List (Int × (ByteArray × (ByteArray × (Int × (List ByteArray))))))))) (fun s1 =>
    (cond (ilt s1.1 (n2i (xlen s1.2.1)))
      (chk (okIx s1.1 (xlen s1.2.1))
      (Option.bind (F_s_l25Own (xget s1.2.1 (i2n s1.1) (0, ((ByteArray.mk #[]), ((ByteArray.mk #[]), (0, ([] : (List ByteArray)))))))) fun r3 =>
        (chk (okRoom (xlen s1.2.2) (xlen ((r3.1, (r3.2.1, (r3.2.2.1, r3.2.2.2))) :: ([] : (List (Int × (ByteArray × (ByteArray × (Int × (List ByteArray))))))))) 72)
        (some (.inl ((iadd .i64 s1.1 1), (s1.2.1, (xapp s1.2.2 ((r3.1, (r3.2.1, (r3.2.2.1, r3.2.2.2))) :: ([] : (List (Int × (ByteArray × (ByteArray × (Int × (List ByteArray))))))))))))))))
      (some (.inr s1.2.2))))
    (0, (x, ([] : (List (Int × (ByteArray × (ByteArray × (Int × (List ByteArray))))))))))

noncomputable def F_s_RemoveEntry (x : ((List (Int × (ByteArray × (ByteArray × (Int × (List ByteArray)))))) × Int)) : Option ((List (Int × (ByteArray × (ByteArray × (Int × (List ByteArray)))))) × Int) :=
  (Option.bind (F_s_l25Ask x) fun r1 =>
    (cond (ine r1.2 0)
      (some (([] : (List (Int × (ByteArray × (ByteArray × (Int × (List ByteArray))))))), r1.2))
      (chk (okTo r1.1 (xlen x.1))
      none)))

noncomputable def F_i_copyEntries (x : (List (Int × (ByteArray × (ByteArray × (Int × (List ByteArray))))))) : Option (List (Int × (ByteArray × (ByteArray × (Int × (List ByteArray)))))) :=
  (iter (σ := (Int × (Int × ((List (Int × (ByteArray × (ByteArray × (Int × (List ByteArray)))))) × (List (Int × (ByteArray × (ByteArray × (Int × (List ByteArray)))))))))) (fun s1 =>
    (cond (ilt s1.2.1 s1.1)
      (chk (okIx s1.2.1 (xlen s1.2.2.2))
      (Option.bind (F_i_Entry_copied ((xget s1.2.2.2 (i2n s1.2.1) (0, ((ByteArray.mk #[]), ((ByteArray.mk #[]), (0, ([] : (List ByteArray))))))).1, ((xget s1.2.2.2 (i2n s1.2.1) (0, ((ByteArray.mk #[]), ((ByteArray.mk #[]), (0, ([] : (List ByteArray))))))).2.1, ((xget s1.2.2.2 (i2n s1.2.1) (0, ((ByteArray.mk #[]), ((ByteArray.mk #[]), (0, ([] : (List ByteArray))))))).2.2.1, (xget s1.2.2.2 (i2n s1.2.1) (0, ((ByteArray.mk #[]), ((ByteArray.mk #[]), (0, ([] : (List ByteArray))))))).2.2.2)))) fun r3 =>
        (chk (okRoom (xlen s1.2.2.1) (xlen ((r3.1, (r3.2.1, (r3.2.2.1, r3.2.2.2))) :: ([] : (List (Int × (ByteArray × (ByteArray × (Int × (List ByteArray))))))))) 72)
        (some (.inl (s1.1, ((iadd .i64 s1.2.1 1), ((xapp s1.2.2.1 ((r3.1, (r3.2.1, (r3.2.2.1, r3.2.2.2))) :: ([] : (List (Int × (ByteArray × (ByteArray × (Int × (List ByteArray))))))))), s1.2.2.2))))))))
      (some (.inr s1.2.2.1))))
    ((n2i (xlen x)), (0, (([] : (List (Int × (ByteArray × (ByteArray × (Int × (List ByteArray))))))), x))))

noncomputable def F_i_RemoveEntry (x : ((List (Int × (ByteArray × (ByteArray × (Int × (List ByteArray)))))) × Int)) : Option ((List (Int × (ByteArray × (ByteArray × (Int × (List ByteArray)))))) × Int) :=
  (Option.bind (F_i_ValidEntries x.1) fun r1 =>
    (cond (bnot r1)
      (some (([] : (List (Int × (ByteArray × (ByteArray × (Int × (List ByteArray))))))), 1))
      (Option.bind (F_i_entryAt x) fun r3 =>
        (cond (ilt r3 0)
          (some (([] : (List (Int × (ByteArray × (ByteArray × (Int × (List ByteArray))))))), 3))
          (chk (okTo r3 (xlen x.1))
          (Option.bind (F_i_copyEntries (xsub x.1 0 (i2n r3))) fun r5 =>
            (chk (okTo (iadd .i64 r3 1) (xlen x.1))
            (Option.bind (F_i_copyEntries (xsub x.1 (i2n (iadd .i64 r3 1)) (xlen x.1))) fun r6 =>
              (chk (okRoom (xlen r5) (xlen r6) 72)
              (some ((xapp r5 r6), 0)))))))))))

noncomputable def F_l_heldEntryS (x : ((List (Int × (ByteArray × (ByteArray × (Int × (List ByteArray)))))) × Int)) : Option Int :=
  (iter (σ := (Int × (Int × (List (Int × (ByteArray × (ByteArray × (Int × (List ByteArray))))))))) (fun s1 =>
    (cond (ilt s1.2.1 (n2i (xlen s1.2.2)))
      (chk (okIx s1.2.1 (xlen s1.2.2))
      (cond (ine (xget s1.2.2 (i2n s1.2.1) (0, ((ByteArray.mk #[]), ((ByteArray.mk #[]), (0, ([] : (List ByteArray))))))).1 s1.1)
        (some (.inr (-1)))
        (chk (okIx s1.2.1 (xlen s1.2.2))
        (Option.bind (F_l_markText (iadd .i64 s1.1 1)) fun r4 =>
          (cond (sne (xget s1.2.2 (i2n s1.2.1) (0, ((ByteArray.mk #[]), ((ByteArray.mk #[]), (0, ([] : (List ByteArray))))))).2.1 r4.1)
            (some (.inr (-1)))
            (chk (okIx s1.2.1 (xlen s1.2.2))
            (Option.bind (F_l_markText (iadd .i64 (iadd .i64 s1.1 1) 1)) fun r6 =>
              (cond (sne (xget s1.2.2 (i2n s1.2.1) (0, ((ByteArray.mk #[]), ((ByteArray.mk #[]), (0, ([] : (List ByteArray))))))).2.2.1 r6.1)
                (some (.inr (-1)))
                (chk (okIx s1.2.1 (xlen s1.2.2))
                (cond (ine (xget s1.2.2 (i2n s1.2.1) (0, ((ByteArray.mk #[]), ((ByteArray.mk #[]), (0, ([] : (List ByteArray))))))).2.2.2.1 (iadd .i64 (iadd .i64 (iadd .i64 s1.1 1) 1) 1))
                  (some (.inr (-1)))
                  (chk (okIx s1.2.1 (xlen s1.2.2))
                  (Option.bind (F_l_heldStringS ((xget s1.2.2 (i2n s1.2.1) (0, ((ByteArray.mk #[]), ((ByteArray.mk #[]), (0, ([] : (List ByteArray))))))).2.2.2.2, (iadd .i64 (iadd .i64 (iadd .i64 (iadd .i64 s1.1 1) 1) 1) 1))) fun r9 =>
                    (cond (ilt r9 0)
                      (some (.inr (-1)))
                      (some (.inl (r9, ((iadd .i64 s1.2.1 1), s1.2.2)))))))))))))))))
      (some (.inr s1.1))))
    (x.2, (0, x.1)))

noncomputable def F_l_FnExactRemoveEntry (x : ((List (Int × (ByteArray × (ByteArray × (Int × (List ByteArray)))))) × Int)) : Option Bool :=
  (Option.bind (F_l_szEntryS (x.1, 1048576)) fun r1 =>
    (cond (ilt r1 0)
      (some true)
      (Option.bind (F_l_toEntryS x.1) fun r3 =>
        (Option.bind (F_s_RemoveEntry (r3, x.2)) fun r4 =>
          (Option.bind (F_l_toEntryS x.1) fun r5 =>
            (Option.bind (F_i_RemoveEntry (r5, x.2)) fun r6 =>
              (Option.bind (F_l_eqEntryS (r6.1, r4.1)) fun r7 =>
                (cond (bnot r7)
                  (some false)
                  (cond (ine r6.2 r4.2)
                    (some false)
                    (Option.bind (F_l_toEntryS x.1) fun r10 =>
                      (Option.bind (F_l_eqEntryS (r5, r10)) fun r11 =>
                        (cond (bnot r11)
                          (some false)
                          (Option.bind (F_l_markEntryS (r5, 1)) fun r13 =>
                            (cond (ilt r13.1 0)
                              (some false)
                              (Option.bind (F_l_eqEntryS (r6.1, r4.1)) fun r15 =>
                                (cond (bnot r15)
                                  (some false)
                                  (cond (ine r6.2 r4.2)
                                    (some false)
                                    (Option.bind (F_l_markEntryS (r6.1, 1)) fun r18 =>
                                      (Option.bind (F_l_heldEntryS (r18.2, 1)) fun r19 =>
                                        (cond (ilt r19 0)
                                          (some false)
                                          (cond (ine r19 r18.1)
                                            (some false)
                                            (Option.bind (F_l_toEntryS x.1) fun r22 =>
                                              (Option.bind (F_i_RemoveEntry (r22, x.2)) fun r23 =>
                                                (Option.bind (F_l_eqEntryS (r23.1, r4.1)) fun r24 =>
                                                  (cond (bnot r24)
                                                    (some false)
                                                    (cond (ine r23.2 r4.2)
                                                      (some false)
                                                      (Option.bind (F_l_heldEntryS (r18.2, 1)) fun r27 =>
                                                        (cond (ilt r27 0)
                                                          (some false)
                                                          (cond (ine r27 r18.1)
                                                            (some false)
                                                            (some true))))))))))))))))))))))))))))))

end Go.Prg
