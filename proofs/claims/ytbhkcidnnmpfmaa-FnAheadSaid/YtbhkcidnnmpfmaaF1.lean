/- What the functions of the program compute: printed by a program off the engine. Conditions: none. -/
import Derived.Test.YtbhkcidnnmpfmaaEng25
namespace Go.Prg
open Go.Eng
set_option linter.all false

noncomputable def F_l_szInt64S (x : ((List Int) × Int)) : Option Int :=
  (cond (ilt (isub .i64 x.2 (n2i (xlen x.1))) 0)
    (some (-1))
    (some (isub .i64 x.2 (n2i (xlen x.1)))))

noncomputable def F_l_szEngine (x : ((Int × (List Int)) × Int)) : Option Int :=
  (Option.bind (F_l_szInt64S (x.1.2, x.2)) fun r1 =>
    (cond (ilt r1 0)
      (some (-1))
      (some r1)))

noncomputable def F_s_l00In (x : (Int × (Int × Int))) : Option Bool :=
  (cond (ige x.1 x.2.1)
    (some (ile x.1 x.2.2))
    (some false))

noncomputable def F_s_l00Min (x : (Int × Int)) : Option Int :=
  (cond (ilt x.1 x.2)
    (some x.1)
    (some x.2))

noncomputable def F_s_l10Power (x : (Int × Int)) : Option Int :=
  (iter (σ := (Int × (Int × Int))) (fun s1 =>
    (cond (igt s1.2.1 0)
      (Option.bind (F_s_l00Min (1000000000002, (imul .i64 s1.2.2 s1.1))) fun r3 =>
        (some (.inl (s1.1, ((isub .i64 s1.2.1 1), r3)))))
      (some (.inr s1.2.2))))
    (x.1, (x.2, 1)))

noncomputable def F_s_l16Width (x : Int) : Option Bool :=
  (Option.bind (F_s_l00In (x, (1, 12))) fun r1 =>
    (some r1))

noncomputable def F_s_l16Ok (x : (Int × (List Int))) : Option Bool :=
  (Option.bind (F_s_l16Width x.1) fun r1 =>
    (cond (bnot r1)
      (some false)
      (Option.bind (F_s_l00In ((n2i (xlen x.2)), (1, 9))) fun r3 =>
        (cond (bnot r3)
          (some false)
          (iter (σ := (Int × (List (Int × (List Int))))) (fun s5 =>
            (cond (ilt s5.1 (n2i (xlen (xget s5.2 0 (0, ([] : (List Int)))).2)))
              (chk (okIx s5.1 (xlen (xget s5.2 0 (0, ([] : (List Int)))).2))
              (Option.bind (F_s_l10Power (10, (xget s5.2 0 (0, ([] : (List Int)))).1)) fun r7 =>
                (Option.bind (F_s_l00In ((xget (xget s5.2 0 (0, ([] : (List Int)))).2 (i2n s5.1) 0), (0, (isub .i64 r7 1)))) fun r8 =>
                  (cond (bnot r8)
                    (some (.inr false))
                    (some (.inl ((iadd .i64 s5.1 1), s5.2)))))))
              (some (.inr true))))
            (0, (x :: ([] : (List (Int × (List Int)))))))))))

noncomputable def F_s_l00Own (x : (List Int)) : Option (List Int) :=
  (chk (okRoom (xlen ([] : (List Int))) (xlen x) 8)
  (some (xapp ([] : (List Int)) x)))

noncomputable def F_s_l16Own (x : (Int × (List Int))) : Option (Int × (List Int)) :=
  (Option.bind (F_s_l00Own x.2) fun r1 =>
    (some (x.1, r1)))

noncomputable def F_s_l16Mod (x : (Int × Int)) : Option Int :=
  (Option.bind (F_s_l10Power (10, x.1)) fun r1 =>
    (chk (okDiv r1)
    (chk (okDiv r1)
    (some (irem (iadd .i64 (irem x.2 r1) r1) r1)))))

noncomputable def F_s_l16Back (x : (Int × (List Int))) : Option (Int × (List Int)) :=
  (Option.bind (F_s_l16Own x) fun r1 =>
    (iter (σ := (Int × ((List (Int × (List Int))) × (Int × ((List Int) × (Int × (List Int))))))) (fun s2 =>
      (cond (igt s2.1 0)
        (chk (okIx (isub .i64 s2.1 1) (xlen s2.2.2.2.2.2))
        (chk (okIx s2.1 (xlen s2.2.2.2.2.2))
        (Option.bind (F_s_l16Mod ((xget s2.2.1 0 (0, ([] : (List Int)))).1, (isub .i64 (xget s2.2.2.2.2.2 (i2n (isub .i64 s2.1 1)) 0) (xget s2.2.2.2.2.2 (i2n s2.1) 0)))) fun r4 =>
          (chk (okIx (isub .i64 s2.1 1) (xlen s2.2.2.2.2.2))
          (some (.inl ((isub .i64 s2.1 1), (s2.2.1, (s2.2.2.1, (s2.2.2.2.1, (s2.2.2.2.2.1, (xset s2.2.2.2.2.2 (i2n (isub .i64 s2.1 1)) r4))))))))))))
        (some (.inr s2.2.2.2.2))))
      ((isub .i64 (n2i (xlen r1.2)) 1), ((x :: ([] : (List (Int × (List Int))))), (0, (([] : (List Int)), r1))))))

noncomputable def F_s_BackCycle (x : (Int × (List Int))) : Option ((Int × (List Int)) × Int) :=
  (Option.bind (F_s_l16Ok x) fun r1 =>
    (cond (bnot r1)
      (some ((0, ([] : (List Int))), 1))
      (Option.bind (F_s_l16Back x) fun r3 =>
        (some (r3, 0)))))

noncomputable def F_l_toInt64S (x : (List Int)) : Option (List Int) :=
  (chk (ieq (n2i (xlen x)) (n2i (xlen x)))
  (chk (okMake (n2i (xlen x)) 8)
  (iter (σ := (Int × ((List Int) × (List Int)))) (fun s1 =>
    (cond (ilt s1.1 (n2i (xlen s1.2.1)))
      (chk (okIx s1.1 (xlen s1.2.1))
      (chk (okIx s1.1 (xlen s1.2.2))
      (some (.inl ((iadd .i64 s1.1 1), (s1.2.1, (xset s1.2.2 (i2n s1.1) (xget s1.2.1 (i2n s1.1) 0))))))))
      (some (.inr s1.2.2))))
    (0, (x, (xrep (i2n (n2i (xlen x))) 0))))))

noncomputable def F_l_toEngine (x : (Int × (List Int))) : Option (Int × (List Int)) :=
  (Option.bind (F_l_toInt64S x.2) fun r1 =>
    (some (x.1, r1)))

noncomputable def F_i_between (x : (Int × (Int × Int))) : Option Bool :=
  (cond (ige x.1 x.2.1)
    (some (ile x.1 x.2.2))
    (some false))

noncomputable def F_i_isEngineWidth (x : Int) : Option Bool :=
  (Option.bind (F_i_between (x, (1, 12))) fun r1 =>
    (some r1))

noncomputable def F_i_modulus (x : Int) : Option Int :=
  (iter (σ := (Int × (Int × Int))) (fun s1 =>
    (cond (ilt s1.2.2 s1.2.1)
      (some (.inl ((imul .i64 s1.1 10), (s1.2.1, (iadd .i64 s1.2.2 1)))))
      (some (.inr s1.1))))
    (1, (x, 0)))

noncomputable def F_i_ValidEngine (x : (Int × (List Int))) : Option Bool :=
  (Option.bind (F_i_isEngineWidth x.1) fun r1 =>
    (cond (bnot r1)
      (some false)
      (Option.bind (F_i_between ((n2i (xlen x.2)), (1, 9))) fun r3 =>
        (cond (bnot r3)
          (some false)
          (iter (σ := (Int × (Int × (Int × (List Int))))) (fun s5 =>
            (cond (ilt s5.2.1 s5.1)
              (chk (okIx s5.2.1 (xlen s5.2.2.2))
              (Option.bind (F_i_modulus s5.2.2.1) fun r7 =>
                (Option.bind (F_i_between ((xget s5.2.2.2 (i2n s5.2.1) 0), (0, (isub .i64 r7 1)))) fun r8 =>
                  (cond (bnot r8)
                    (some (.inr false))
                    (some (.inl (s5.1, ((iadd .i64 s5.2.1 1), s5.2.2))))))))
              (some (.inr true))))
            ((n2i (xlen x.2)), (0, x)))))))

noncomputable def F_i_copyNumbers (x : (List Int)) : Option (List Int) :=
  (chk (okRoom (xlen ([] : (List Int))) (xlen x) 8)
  (some (xapp ([] : (List Int)) x)))

noncomputable def F_i_Engine_copied (x : (Int × (List Int))) : Option (Int × (List Int)) :=
  (Option.bind (F_i_copyNumbers x.2) fun r1 =>
    (some (x.1, r1)))

noncomputable def F_i_Engine_back (x : (Int × (List Int))) : Option (Int × (List Int)) :=
  (Option.bind (F_i_Engine_copied x) fun r1 =>
    (Option.bind (F_i_modulus x.1) fun r2 =>
      (iter (σ := (Int × (Int × (Int × ((List Int) × (Int × (List Int))))))) (fun s3 =>
        (cond (ige s3.2.1 0)
          (chk (okIx s3.2.1 (xlen s3.2.2.2.2.2))
          (chk (okIx (iadd .i64 s3.2.1 1) (xlen s3.2.2.2.2.2))
          (chk (okDiv s3.1)
          (chk (okIx s3.2.1 (xlen s3.2.2.2.2.2))
          (some (.inl (s3.1, ((isub .i64 s3.2.1 1), (s3.2.2.1, (s3.2.2.2.1, (s3.2.2.2.2.1, (xset s3.2.2.2.2.2 (i2n s3.2.1) (irem (iadd .i64 (isub .i64 (xget s3.2.2.2.2.2 (i2n s3.2.1) 0) (xget s3.2.2.2.2.2 (i2n (iadd .i64 s3.2.1 1)) 0)) s3.1) s3.1)))))))))))))
          (some (.inr s3.2.2.2.2))))
        (r2, ((isub .i64 (n2i (xlen r1.2)) 2), (0, (([] : (List Int)), r1)))))))

noncomputable def F_l_eqInt64S (x : ((List Int) × (List Int))) : Option Bool :=
  (cond (ine (n2i (xlen x.1)) (n2i (xlen x.2)))
    (some false)
    (iter (σ := (Int × ((List Int) × (List Int)))) (fun s2 =>
      (cond (ilt s2.1 (n2i (xlen s2.2.1)))
        (chk (okIx s2.1 (xlen s2.2.1))
        (chk (okIx s2.1 (xlen s2.2.2))
        (cond (ine (xget s2.2.1 (i2n s2.1) 0) (xget s2.2.2 (i2n s2.1) 0))
          (some (.inr false))
          (some (.inl ((iadd .i64 s2.1 1), s2.2))))))
        (some (.inr true))))
      (0, x)))

noncomputable def F_l_eqEngine (x : ((Int × (List Int)) × (Int × (List Int)))) : Option Bool :=
  (cond (ine x.1.1 x.2.1)
    (some false)
    (Option.bind (F_l_eqInt64S (x.1.2, x.2.2)) fun r2 =>
      (cond (bnot r2)
        (some false)
        (some true))))

noncomputable def F_l_markInt64S (x : ((List Int) × Int)) : Option (Int × (List Int)) :=
  (iter (σ := (Int × (Int × (List Int)))) (fun s1 =>
    (cond (ilt s1.2.1 (n2i (xlen s1.2.2)))
      (chk (okIx s1.2.1 (xlen s1.2.2))
      (some (.inl ((iadd .i64 s1.1 1), ((iadd .i64 s1.2.1 1), (xset s1.2.2 (i2n s1.2.1) s1.1))))))
      (some (.inr (s1.1, s1.2.2)))))
    (x.2, (0, x.1)))

noncomputable def F_l_markEngine (x : ((Int × (List Int)) × Int)) : Option (Int × (Int × (List Int))) :=
  (Option.bind (F_l_markInt64S (x.1.2, x.2)) fun r1 =>
    (some (r1.1, (x.1.1, r1.2))))

noncomputable def F_l_heldInt64S (x : ((List Int) × Int)) : Option Int :=
  (iter (σ := (Int × (Int × (List Int)))) (fun s1 =>
    (cond (ilt s1.2.1 (n2i (xlen s1.2.2)))
      (chk (okIx s1.2.1 (xlen s1.2.2))
      (cond (ine (xget s1.2.2 (i2n s1.2.1) 0) s1.1)
        (some (.inr (-1)))
        (some (.inl ((iadd .i64 s1.1 1), ((iadd .i64 s1.2.1 1), s1.2.2))))))
      (some (.inr s1.1))))
    (x.2, (0, x.1)))

noncomputable def F_l_heldEngine (x : ((Int × (List Int)) × Int)) : Option Int :=
  (Option.bind (F_l_heldInt64S (x.1.2, x.2)) fun r1 =>
    (cond (ilt r1 0)
      (some (-1))
      (some r1)))

noncomputable def F_s_l16Add (x : ((Int × (List Int)) × Int)) : Option (Int × (List Int)) :=
  (chk (okIx (isub .i64 x.2 1) (xlen x.1.2))
  (chk (okIx x.2 (xlen x.1.2))
  (Option.bind (F_s_l16Mod (x.1.1, (iadd .i64 (xget x.1.2 (i2n (isub .i64 x.2 1)) 0) (xget x.1.2 (i2n x.2) 0)))) fun r1 =>
    (chk (okIx (isub .i64 x.2 1) (xlen x.1.2))
    (some (x.1.1, (xset x.1.2 (i2n (isub .i64 x.2 1)) r1)))))))

noncomputable def F_s_l16Cycle (x : (Int × (List Int))) : Option (Int × (List Int)) :=
  (Option.bind (F_s_l16Own x) fun r1 =>
    (iter (σ := (Int × (Int × ((List Int) × (Int × (List Int)))))) (fun s2 =>
      (cond (ilt s2.1 (n2i (xlen s2.2.2.2.2)))
        (Option.bind (F_s_l16Add (s2.2.2.2, s2.1)) fun r4 =>
          (some (.inl ((iadd .i64 s2.1 1), (s2.2.1, (s2.2.2.1, r4))))))
        (some (.inr s2.2.2.2))))
      (1, (0, (([] : (List Int)), r1)))))

noncomputable def F_s_CycleEngine (x : (Int × (List Int))) : Option ((Int × (List Int)) × Int) :=
  (Option.bind (F_s_l16Ok x) fun r1 =>
    (cond (bnot r1)
      (some ((0, ([] : (List Int))), 1))
      (Option.bind (F_s_l16Cycle x) fun r3 =>
        (some (r3, 0)))))

noncomputable def F_i_Engine_cycled (x : (Int × (List Int))) : Option (Int × (List Int)) :=
  (Option.bind (F_i_Engine_copied x) fun r1 =>
    (iter (σ := (Int × (Int × ((List Int) × (Int × ((List Int) × (Int × (List Int)))))))) (fun s2 =>
      (cond (ilt (iadd .i64 s2.1 1) (n2i (xlen s2.2.2.2.2.2.2)))
        (chk (okIx s2.1 (xlen s2.2.2.2.2.2.2))
        (chk (okIx (iadd .i64 s2.1 1) (xlen s2.2.2.2.2.2.2))
        (Option.bind (F_i_modulus s2.2.1) fun r4 =>
          (chk (okDiv r4)
          (chk (okIx s2.1 (xlen s2.2.2.2.2.2.2))
          (some (.inl ((iadd .i64 s2.1 1), (s2.2.1, (s2.2.2.1, (s2.2.2.2.1, (s2.2.2.2.2.1, (s2.2.2.2.2.2.1, (xset s2.2.2.2.2.2.2 (i2n s2.1) (irem (iadd .i64 (xget s2.2.2.2.2.2.2 (i2n s2.1) 0) (xget s2.2.2.2.2.2.2 (i2n (iadd .i64 s2.1 1)) 0)) r4)))))))))))))))
        (some (.inr s2.2.2.2.2.2))))
      (0, (x.1, (x.2, (0, (([] : (List Int)), r1)))))))

noncomputable def F_i_CycleEngine (x : (Int × (List Int))) : Option ((Int × (List Int)) × Int) :=
  (Option.bind (F_i_ValidEngine x) fun r1 =>
    (cond (bnot r1)
      (some ((0, ([] : (List Int))), 1))
      (Option.bind (F_i_Engine_cycled x) fun r3 =>
        (some (r3, 0)))))

noncomputable def F_l_FnExactCycleEngine (x : (Int × (List Int))) : Option Bool :=
  (Option.bind (F_l_szEngine (x, 1048576)) fun r1 =>
    (cond (ilt r1 0)
      (some true)
      (Option.bind (F_l_toEngine x) fun r3 =>
        (Option.bind (F_s_CycleEngine r3) fun r4 =>
          (Option.bind (F_l_toEngine x) fun r5 =>
            (Option.bind (F_i_CycleEngine r5) fun r6 =>
              (Option.bind (F_l_eqEngine (r6.1, r4.1)) fun r7 =>
                (cond (bnot r7)
                  (some false)
                  (cond (ine r6.2 r4.2)
                    (some false)
                    (Option.bind (F_l_toEngine x) fun r10 =>
                      (Option.bind (F_l_eqEngine (r5, r10)) fun r11 =>
                        (cond (bnot r11)
                          (some false)
                          (Option.bind (F_l_markEngine (r5, 1)) fun r13 =>
                            (cond (ilt r13.1 0)
                              (some false)
                              (Option.bind (F_l_eqEngine (r6.1, r4.1)) fun r15 =>
                                (cond (bnot r15)
                                  (some false)
                                  (cond (ine r6.2 r4.2)
                                    (some false)
                                    (Option.bind (F_l_markEngine (r6.1, 1)) fun r18 =>
                                      (Option.bind (F_l_heldEngine ((r6.1.1, r18.2.2), 1)) fun r19 =>
                                        (cond (ilt r19 0)
                                          (some false)
                                          (cond (ine r19 r18.1)
                                            (some false)
                                            (Option.bind (F_l_toEngine x) fun r22 =>
                                              (Option.bind (F_i_CycleEngine r22) fun r23 =>
                                                (Option.bind (F_l_eqEngine (r23.1, r4.1)) fun r24 =>
                                                  (cond (bnot r24)
                                                    (some false)
                                                    (cond (ine r23.2 r4.2)
                                                      (some false)
                                                      (Option.bind (F_l_heldEngine ((r6.1.1, r18.2.2), 1)) fun r27 =>
                                                        (cond (ilt r27 0)
                                                          (some false)
                                                          (cond (ine r27 r18.1)
                                                            (some false)
                                                            (some true))))))))))))))))))))))))))))))

noncomputable def F_l_a2Long (x : ((List Int) × (List Int))) : Option Bool :=
  (cond (igt (n2i (xlen x.1)) 3000)
    (some true)
    (some (igt (n2i (xlen x.2)) 3000)))

noncomputable def F_s_l00From (x : (List Int)) : Option ((List Int) × (Int × Int)) :=
  (some (x, (0, 0)))

noncomputable def F_s_l00Src_next (x : ((List Int) × (Int × Int))) : Option (Int × ((List Int) × (Int × Int))) :=
  (cond (ilt x.2.1 (n2i (xlen x.1)))
    (chk (okIx x.2.1 (xlen x.1))
    (cond (ile (iadd .i64 x.2.1 1) (n2i (xlen x.1)))
      (some ((iwrap .i64 (xget x.1 (i2n x.2.1) 0)), (x.1, ((iadd .i64 x.2.1 1), (iadd .u64 (iadd .u64 (imul .u64 x.2.2 6364136223846793005) (iwrap .u64 (iwrap .i64 (xget x.1 (i2n x.2.1) 0)))) 1442695040888963407)))))
      (chk (okShift .u64 40)
      (some ((iwrap .i64 (ibit .and .u64 (ishr (iadd .u64 (iadd .u64 (imul .u64 x.2.2 6364136223846793005) (iwrap .u64 (iwrap .i64 (xget x.1 (i2n x.2.1) 0)))) 1442695040888963407) 40) 255)), (x.1, ((iadd .i64 x.2.1 1), (iadd .u64 (iadd .u64 (imul .u64 x.2.2 6364136223846793005) (iwrap .u64 (iwrap .i64 (xget x.1 (i2n x.2.1) 0)))) 1442695040888963407))))))))
    (cond (ile (iadd .i64 x.2.1 1) (n2i (xlen x.1)))
      (some (0, (x.1, ((iadd .i64 x.2.1 1), (iadd .u64 (iadd .u64 (imul .u64 x.2.2 6364136223846793005) (iwrap .u64 0)) 1442695040888963407)))))
      (chk (okShift .u64 40)
      (some ((iwrap .i64 (ibit .and .u64 (ishr (iadd .u64 (iadd .u64 (imul .u64 x.2.2 6364136223846793005) (iwrap .u64 0)) 1442695040888963407) 40) 255)), (x.1, ((iadd .i64 x.2.1 1), (iadd .u64 (iadd .u64 (imul .u64 x.2.2 6364136223846793005) (iwrap .u64 0)) 1442695040888963407))))))))

noncomputable def F_s_l00Src_pick (x : (((List Int) × (Int × Int)) × Int)) : Option (Int × ((List Int) × (Int × Int))) :=
  (cond (ile x.2 1)
    (some (0, (x.1.1, x.1.2)))
    (Option.bind (F_s_l00Src_next (x.1.1, x.1.2)) fun r2 =>
      (cond (igt x.2 200)
        (Option.bind (F_s_l00Src_next (r2.2.1, r2.2.2)) fun r4 =>
          (chk (okDiv x.2)
          (some ((irem (iadd .i64 (imul .i64 r2.1 256) r4.1) x.2), (r4.2.1, r4.2.2)))))
        (chk (okDiv x.2)
        (some ((irem r2.1 x.2), (r2.2.1, r2.2.2)))))))

noncomputable def F_s_l00Src_one (x : (((List Int) × (Int × Int)) × Int)) : Option (Bool × ((List Int) × (Int × Int))) :=
  (Option.bind (F_s_l00Src_pick ((x.1.1, x.1.2), x.2)) fun r1 =>
    (some ((ieq r1.1 0), (r1.2.1, r1.2.2))))

noncomputable def F_s_l02DrawDigits (x : (((List Int) × (Int × Int)) × (Int × Int))) : Option ((List Int) × ((List Int) × (Int × Int))) :=
  (iter (σ := (Int × (Int × (Int × (Int × (Int × ((List Int) × (List Int)))))))) (fun s1 =>
    (cond (ilt s1.2.2.1 s1.2.1)
      (Option.bind (F_s_l00Src_pick ((s1.2.2.2.2.2.1, (s1.2.2.2.1, s1.2.2.2.2.1)), s1.1)) fun r3 =>
        (Option.bind (F_s_l00Src_one ((r3.2.1, r3.2.2), 3)) fun r4 =>
          (cond r4.1
            (chk (okRoom (xlen s1.2.2.2.2.2.2) (xlen ((isub .i64 s1.1 1) :: ([] : (List Int)))) 8)
            (some (.inl (s1.1, (s1.2.1, ((iadd .i64 s1.2.2.1 1), (r4.2.2.1, (r4.2.2.2, (r4.2.1, (xapp s1.2.2.2.2.2.2 ((isub .i64 s1.1 1) :: ([] : (List Int)))))))))))))
            (chk (okRoom (xlen s1.2.2.2.2.2.2) (xlen (r3.1 :: ([] : (List Int)))) 8)
            (some (.inl (s1.1, (s1.2.1, ((iadd .i64 s1.2.2.1 1), (r4.2.2.1, (r4.2.2.2, (r4.2.1, (xapp s1.2.2.2.2.2.2 (r3.1 :: ([] : (List Int))))))))))))))))
      (some (.inr (s1.2.2.2.2.2.2, (s1.2.2.2.2.2.1, (s1.2.2.2.1, s1.2.2.2.2.1)))))))
    (x.2.1, (x.2.2, (0, (x.1.2.1, (x.1.2.2, (x.1.1, ([] : (List Int)))))))))

noncomputable def F_s_l02Most (x : Int) : Option Int :=
  (iter (σ := (Int × (Int × Int))) (fun s1 =>
    (cond (ile (isub .i64 s1.2.2 1) 1000000000000)
      (cond (ilt s1.2.1 16)
        (some (.inl (s1.1, ((iadd .i64 s1.2.1 1), (imul .i64 s1.2.2 s1.1)))))
        (some (.inr s1.2.1)))
      (some (.inr s1.2.1))))
    (x, (1, (imul .i64 x x))))

noncomputable def F_s_l02Draw (x : (((List Int) × (Int × Int)) × Int)) : Option ((Int × (List Int)) × ((List Int) × (Int × Int))) :=
  (Option.bind (F_s_l00Src_pick ((x.1.1, x.1.2), 11)) fun r1 =>
    (Option.bind (F_s_l00Src_one ((r1.2.1, r1.2.2), 2)) fun r2 =>
      (cond r2.1
        (Option.bind (F_s_l02Most 10) fun r4 =>
          (Option.bind (F_s_l00Min (x.2, r4)) fun r5 =>
            (Option.bind (F_s_l00Src_pick ((r2.2.1, r2.2.2), r5)) fun r6 =>
              (Option.bind (F_s_l02DrawDigits ((r6.2.1, r6.2.2), (10, (iadd .i64 1 r6.1)))) fun r7 =>
                (some ((10, r7.1), (r7.2.1, r7.2.2)))))))
        (Option.bind (F_s_l02Most (iadd .i64 2 r1.1)) fun r4 =>
          (Option.bind (F_s_l00Min (x.2, r4)) fun r5 =>
            (Option.bind (F_s_l00Src_pick ((r2.2.1, r2.2.2), r5)) fun r6 =>
              (Option.bind (F_s_l02DrawDigits ((r6.2.1, r6.2.2), ((iadd .i64 2 r1.1), (iadd .i64 1 r6.1)))) fun r7 =>
                (some (((iadd .i64 2 r1.1), r7.1), (r7.2.1, r7.2.2))))))))))

noncomputable def F_s_A2Registers (x : (List Int)) : Option ((Int × (List Int)) × (Int × (List Int))) :=
  (Option.bind (F_s_l00From x) fun r1 =>
    (Option.bind (F_s_l02Draw ((r1.1, r1.2), 7)) fun r2 =>
      (Option.bind (F_s_l02DrawDigits ((r2.2.1, r2.2.2), (r2.1.1, (n2i (xlen r2.1.2))))) fun r3 =>
        (some (r2.1, (r2.1.1, r3.1))))))

noncomputable def F_l_a2At (x : ((List Int) × (Int × Int))) : Option Int :=
  (cond (ige x.2.1 (n2i (xlen x.1)))
    (some 0)
    (cond (ilt x.2.2 1)
      (some 0)
      (chk (okIx x.2.1 (xlen x.1))
      (chk (okDiv x.2.2)
      (some (irem (iwrap .i64 (xget x.1 (i2n x.2.1) 0)) x.2.2))))))

noncomputable def F_i_isRegisterWidth (x : Int) : Option Bool :=
  (Option.bind (F_i_between (x, (1, 16))) fun r1 =>
    (some r1))

noncomputable def F_i_isBase (x : Int) : Option Bool :=
  (Option.bind (F_i_between (x, (2, 16))) fun r1 =>
    (some r1))

noncomputable def F_i_Register_value (x : (Int × (List Int))) : Option Int :=
  (iter (σ := (Int × (Int × (Int × (List Int))))) (fun s1 =>
    (cond (ige s1.2.1 0)
      (chk (okIx s1.2.1 (xlen s1.2.2.2))
      (cond (igt (iadd .i64 (imul .i64 s1.1 s1.2.2.1) (xget s1.2.2.2 (i2n s1.2.1) 0)) 1000000000000)
        (some (.inr 1000000000001))
        (some (.inl ((iadd .i64 (imul .i64 s1.1 s1.2.2.1) (xget s1.2.2.2 (i2n s1.2.1) 0)), ((isub .i64 s1.2.1 1), s1.2.2))))))
      (some (.inr s1.1))))
    (0, ((isub .i64 (n2i (xlen x.2)) 1), x)))

noncomputable def F_i_ValidRegister (x : (Int × (List Int))) : Option Bool :=
  (Option.bind (F_i_isBase x.1) fun r1 =>
    (cond (bnot r1)
      (some false)
      (Option.bind (F_i_isRegisterWidth (n2i (xlen x.2))) fun r3 =>
        (cond (bnot r3)
          (some false)
          (iter (σ := (Int × (Int × (Int × (List Int))))) (fun s5 =>
            (cond (ilt s5.2.1 s5.1)
              (chk (okIx s5.2.1 (xlen s5.2.2.2))
              (Option.bind (F_i_between ((xget s5.2.2.2 (i2n s5.2.1) 0), (0, (isub .i64 s5.2.2.1 1)))) fun r7 =>
                (cond (bnot r7)
                  (some (.inr false))
                  (some (.inl (s5.1, ((iadd .i64 s5.2.1 1), s5.2.2)))))))
              (Option.map Sum.inr
                (Option.bind (F_i_Register_value s5.2.2) fun r7 =>
                (some (ile r7 1000000000000))))))
            ((n2i (xlen x.2)), (0, x)))))))

noncomputable def F_i_Register_width (x : (Int × (List Int))) : Option Int :=
  (some (n2i (xlen x.2)))

noncomputable def F_i_sole (x : (Int × (List Int))) : Option ((Int × (List Int)) × Int) :=
  (Option.bind (F_i_ValidRegister x) fun r1 =>
    (cond (bnot r1)
      (some ((0, ([] : (List Int))), 5))
      (some (x, 0))))

noncomputable def F_i_ShiftRegister (x : ((Int × (List Int)) × Int)) : Option ((Int × (List Int)) × Int) :=
  (Option.bind (F_i_ValidRegister x.1) fun r1 =>
    (cond (bnot r1)
      (some ((0, ([] : (List Int))), 1))
      (Option.bind (F_i_between (x.2, ((-16), 16))) fun r3 =>
        (cond (bnot r3)
          (some ((0, ([] : (List Int))), 2))
          (iter (σ := (Int × (Int × (Int × (Int × ((List Int) × (Int × ((List Int) × (Int × (List Int)))))))))) (fun s5 =>
            (cond (ilt s5.2.2.1 s5.2.1)
              (cond (ige (isub .i64 s5.2.2.1 s5.1) 0)
                (Option.bind (F_i_Register_width (s5.2.2.2.1, s5.2.2.2.2.1)) fun r8 =>
                  (cond (ilt (isub .i64 s5.2.2.1 s5.1) r8)
                    (chk (okIx (isub .i64 s5.2.2.1 s5.1) (xlen s5.2.2.2.2.1))
                    (chk (okRoom (xlen s5.2.2.2.2.2.2.2.2) (xlen ((xget s5.2.2.2.2.1 (i2n (isub .i64 s5.2.2.1 s5.1)) 0) :: ([] : (List Int)))) 8)
                    (some (.inl (s5.1, (s5.2.1, ((iadd .i64 s5.2.2.1 1), (s5.2.2.2.1, (s5.2.2.2.2.1, (s5.2.2.2.2.2.1, (s5.2.2.2.2.2.2.1, (s5.2.2.2.2.2.2.2.1, (xapp s5.2.2.2.2.2.2.2.2 ((xget s5.2.2.2.2.1 (i2n (isub .i64 s5.2.2.1 s5.1)) 0) :: ([] : (List Int))))))))))))))))
                    (chk (okRoom (xlen s5.2.2.2.2.2.2.2.2) (xlen (0 :: ([] : (List Int)))) 8)
                    (some (.inl (s5.1, (s5.2.1, ((iadd .i64 s5.2.2.1 1), (s5.2.2.2.1, (s5.2.2.2.2.1, (s5.2.2.2.2.2.1, (s5.2.2.2.2.2.2.1, (s5.2.2.2.2.2.2.2.1, (xapp s5.2.2.2.2.2.2.2.2 (0 :: ([] : (List Int)))))))))))))))))
                (chk (okRoom (xlen s5.2.2.2.2.2.2.2.2) (xlen (0 :: ([] : (List Int)))) 8)
                (some (.inl (s5.1, (s5.2.1, ((iadd .i64 s5.2.2.1 1), (s5.2.2.2.1, (s5.2.2.2.2.1, (s5.2.2.2.2.2.1, (s5.2.2.2.2.2.2.1, (s5.2.2.2.2.2.2.2.1, (xapp s5.2.2.2.2.2.2.2.2 (0 :: ([] : (List Int))))))))))))))))
              (Option.map Sum.inr
                (Option.bind (F_i_sole s5.2.2.2.2.2.2.2) fun r7 =>
                (some (r7.1, r7.2))))))
            (x.2, ((n2i (xlen x.1.2)), (0, (x.1.1, (x.1.2, (0, (([] : (List Int)), (x.1.1, ([] : (List Int)))))))))))))))

noncomputable def F_s_l02Value (x : (Int × (List Int))) : Option Int :=
  (iter (σ := (Int × (Int × (Int × (List Int))))) (fun s1 =>
    (cond (ige s1.2.2.1 0)
      (chk (okIx s1.2.2.1 (xlen s1.2.2.2))
      (Option.bind (F_s_l00Min (1000000000001, (iadd .i64 (imul .i64 s1.2.1 s1.1) (xget s1.2.2.2 (i2n s1.2.2.1) 0)))) fun r3 =>
        (some (.inl (s1.1, (r3, ((isub .i64 s1.2.2.1 1), s1.2.2.2)))))))
      (some (.inr s1.2.1))))
    (x.1, (0, ((isub .i64 (n2i (xlen x.2)) 1), x.2))))

noncomputable def F_s_l02Base (x : Int) : Option Bool :=
  (Option.bind (F_s_l00In (x, (2, 16))) fun r1 =>
    (some r1))

noncomputable def F_s_l02Digits (x : (Int × (List Int))) : Option Bool :=
  (iter (σ := (Int × (Int × (List Int)))) (fun s1 =>
    (cond (ilt s1.2.1 (n2i (xlen s1.2.2)))
      (chk (okIx s1.2.1 (xlen s1.2.2))
      (Option.bind (F_s_l00In ((xget s1.2.2 (i2n s1.2.1) 0), (0, (isub .i64 s1.1 1)))) fun r3 =>
        (cond (bnot r3)
          (some (.inr false))
          (some (.inl (s1.1, ((iadd .i64 s1.2.1 1), s1.2.2)))))))
      (Option.map Sum.inr
        (Option.bind (F_s_l00In ((n2i (xlen s1.2.2)), (1, 16))) fun r3 =>
        (some r3)))))
    (x.1, (0, x.2)))

noncomputable def F_s_l02Ok (x : (Int × (List Int))) : Option Bool :=
  (Option.bind (F_s_l02Base x.1) fun r1 =>
    (cond r1
      (Option.bind (F_s_l02Digits x) fun r3 =>
        (cond r3
          (Option.bind (F_s_l02Value x) fun r5 =>
            (some (ile r5 1000000000000)))
          (some false)))
      (some false)))

noncomputable def F_s_ValidRegister (x : (Int × (List Int))) : Option Bool :=
  (Option.bind (F_s_l02Ok x) fun r1 =>
    (some r1))

noncomputable def F_i_pairCode (x : ((Int × (List Int)) × (Int × (List Int)))) : Option Int :=
  (Option.bind (F_i_ValidRegister x.1) fun r1 =>
    (cond (bnot r1)
      (some 1)
      (Option.bind (F_i_ValidRegister x.2) fun r3 =>
        (cond (bnot r3)
          (some 1)
          (cond (ine x.1.1 x.2.1)
            (some 6)
            (Option.bind (F_i_Register_width x.1) fun r6 =>
              (Option.bind (F_i_Register_width x.2) fun r7 =>
                (cond (ine r6 r7)
                  (some 6)
                  (some 0)))))))))

noncomputable def F_i_added (x : ((Int × (List Int)) × (Int × (List Int)))) : Option ((Int × (List Int)) × (List Int)) :=
  (iter (σ := (Int × (Int × (Int × ((List Int) × (Int × ((List Int) × (Int × ((List Int) × (Int × ((List Int) × (List Int)))))))))))) (fun s1 =>
    (cond (ilt s1.2.1 s1.1)
      (chk (okIx s1.2.1 (xlen s1.2.2.2.1))
      (chk (okIx s1.2.1 (xlen s1.2.2.2.2.2.1))
      (chk (okIx s1.2.1 (xlen s1.2.2.2.2.2.2.2.2.2.2))
      (chk (okDiv s1.2.2.1)
      (chk (okRoom (xlen s1.2.2.2.2.2.2.2.2.2.1) (xlen ((irem (iadd .i64 (iadd .i64 (xget s1.2.2.2.1 (i2n s1.2.1) 0) (xget s1.2.2.2.2.2.1 (i2n s1.2.1) 0)) (xget s1.2.2.2.2.2.2.2.2.2.2 (i2n s1.2.1) 0)) s1.2.2.1) :: ([] : (List Int)))) 8)
      (chk (okDiv s1.2.2.1)
      (chk (okRoom (xlen s1.2.2.2.2.2.2.2.2.2.2) (xlen ((iquo .i64 (iadd .i64 (iadd .i64 (xget s1.2.2.2.1 (i2n s1.2.1) 0) (xget s1.2.2.2.2.2.1 (i2n s1.2.1) 0)) (xget s1.2.2.2.2.2.2.2.2.2.2 (i2n s1.2.1) 0)) s1.2.2.1) :: ([] : (List Int)))) 8)
      (some (.inl (s1.1, ((iadd .i64 s1.2.1 1), (s1.2.2.1, (s1.2.2.2.1, (s1.2.2.2.2.1, (s1.2.2.2.2.2.1, (s1.2.2.2.2.2.2.1, (s1.2.2.2.2.2.2.2.1, (s1.2.2.2.2.2.2.2.2.1, ((xapp s1.2.2.2.2.2.2.2.2.2.1 ((irem (iadd .i64 (iadd .i64 (xget s1.2.2.2.1 (i2n s1.2.1) 0) (xget s1.2.2.2.2.2.1 (i2n s1.2.1) 0)) (xget s1.2.2.2.2.2.2.2.2.2.2 (i2n s1.2.1) 0)) s1.2.2.1) :: ([] : (List Int)))), (xapp s1.2.2.2.2.2.2.2.2.2.2 ((iquo .i64 (iadd .i64 (iadd .i64 (xget s1.2.2.2.1 (i2n s1.2.1) 0) (xget s1.2.2.2.2.2.1 (i2n s1.2.1) 0)) (xget s1.2.2.2.2.2.2.2.2.2.2 (i2n s1.2.1) 0)) s1.2.2.1) :: ([] : (List Int)))))))))))))))))))))))
      (some (.inr ((s1.2.2.2.2.2.2.2.2.1, s1.2.2.2.2.2.2.2.2.2.1), s1.2.2.2.2.2.2.2.2.2.2)))))
    ((n2i (xlen x.1.2)), (0, (x.1.1, (x.1.2, (x.2.1, (x.2.2, (0, (([] : (List Int)), (x.1.1, (([] : (List Int)), (0 :: ([] : (List Int))))))))))))))

noncomputable def F_i_CarriesOf (x : ((Int × (List Int)) × (Int × (List Int)))) : Option ((List Int) × Int) :=
  (Option.bind (F_i_pairCode (x.1, x.2)) fun r1 =>
    (cond (ine r1 0)
      (some (([] : (List Int)), r1))
      (Option.bind (F_i_added (x.1, x.2)) fun r3 =>
        (some (r3.2, 0)))))

noncomputable def F_l_FnShiftedDigits (x : ((List Int) × (List Int))) : Option Bool :=
  (Option.bind (F_l_a2Long x) fun r1 =>
    (cond r1
      (some true)
      (Option.bind (F_s_A2Registers x.1) fun r3 =>
        (Option.bind (F_l_a2At (x.2, (0, (iadd .i64 (n2i (xlen r3.1.2)) 1)))) fun r4 =>
          (Option.bind (F_i_ShiftRegister (r3.1, r4)) fun r5 =>
            (cond (ine r5.2 0)
              (some false)
              (Option.bind (F_s_ValidRegister r5.1) fun r7 =>
                (cond (bnot r7)
                  (some false)
                  (cond (ine (n2i (xlen r5.1.2)) (n2i (xlen r3.1.2)))
                    (some false)
                    (Option.bind (F_i_ShiftRegister (r5.1, (isub .i64 0 r4))) fun r10 =>
                      (Option.bind (F_i_CarriesOf (r3.1, r3.2)) fun r11 =>
                        (cond (ine r10.2 0)
                          (some false)
                          (cond (ine (n2i (xlen r10.1.2)) (n2i (xlen r3.1.2)))
                            (some false)
                            (cond (ine r11.2 0)
                              (some false)
                              (cond (ine (n2i (xlen r11.1)) (iadd .i64 (n2i (xlen r3.1.2)) 1))
                                (some false)
                                (chk (okIx 0 (xlen r11.1))
                                (cond (ine (xget r11.1 (i2n 0) 0) 0)
                                  (some false)
                                  (iter (σ := (Int × (Int × (Int × (Int × ((List Int) × (Int × ((List Int) × (Int × ((List Int) × (List Int))))))))))) (fun s17 =>
                                    (cond (ilt s17.2.2.1 s17.1)
                                      (chk (okIx s17.2.2.1 (xlen s17.2.2.2.2.1))
                                      (cond (ige (iadd .i64 s17.2.2.1 s17.2.1) s17.1)
                                        (chk (okIx s17.2.2.1 (xlen s17.2.2.2.2.2.2.2.2.1))
                                        (cond (ine (xget s17.2.2.2.2.2.2.2.2.1 (i2n s17.2.2.1) 0) 0)
                                          (some (.inr false))
                                          (chk (okIx s17.2.2.1 (xlen s17.2.2.2.2.1))
                                          (chk (okIx s17.2.2.1 (xlen s17.2.2.2.2.2.2.1))
                                          (chk (okIx s17.2.2.1 (xlen s17.2.2.2.2.2.2.2.2.2))
                                          (chk (okIx (iadd .i64 s17.2.2.1 1) (xlen s17.2.2.2.2.2.2.2.2.2))
                                          (cond (bnev (ige (iadd .i64 (iadd .i64 (xget s17.2.2.2.2.1 (i2n s17.2.2.1) 0) (xget s17.2.2.2.2.2.2.1 (i2n s17.2.2.1) 0)) (xget s17.2.2.2.2.2.2.2.2.2 (i2n s17.2.2.1) 0)) s17.2.2.2.1) (ieq (xget s17.2.2.2.2.2.2.2.2.2 (i2n (iadd .i64 s17.2.2.1 1)) 0) 1))
                                            (some (.inr false))
                                            (chk (okIx (iadd .i64 s17.2.2.1 1) (xlen s17.2.2.2.2.2.2.2.2.2))
                                            (cond (ilt (xget s17.2.2.2.2.2.2.2.2.2 (i2n (iadd .i64 s17.2.2.1 1)) 0) 0)
                                              (some (.inr false))
                                              (chk (okIx (iadd .i64 s17.2.2.1 1) (xlen s17.2.2.2.2.2.2.2.2.2))
                                              (cond (igt (xget s17.2.2.2.2.2.2.2.2.2 (i2n (iadd .i64 s17.2.2.1 1)) 0) 1)
                                                (some (.inr false))
                                                (some (.inl (s17.1, (s17.2.1, ((iadd .i64 s17.2.2.1 1), (s17.2.2.2.1, (s17.2.2.2.2.1, (s17.2.2.2.2.2.1, (s17.2.2.2.2.2.2.1, (s17.2.2.2.2.2.2.2.1, s17.2.2.2.2.2.2.2.2)))))))))))))))))))))
                                        (chk (okIx s17.2.2.1 (xlen s17.2.2.2.2.2.2.2.2.1))
                                        (cond (ine (xget s17.2.2.2.2.2.2.2.2.1 (i2n s17.2.2.1) 0) (xget s17.2.2.2.2.1 (i2n s17.2.2.1) 0))
                                          (some (.inr false))
                                          (chk (okIx s17.2.2.1 (xlen s17.2.2.2.2.1))
                                          (chk (okIx s17.2.2.1 (xlen s17.2.2.2.2.2.2.1))
                                          (chk (okIx s17.2.2.1 (xlen s17.2.2.2.2.2.2.2.2.2))
                                          (chk (okIx (iadd .i64 s17.2.2.1 1) (xlen s17.2.2.2.2.2.2.2.2.2))
                                          (cond (bnev (ige (iadd .i64 (iadd .i64 (xget s17.2.2.2.2.1 (i2n s17.2.2.1) 0) (xget s17.2.2.2.2.2.2.1 (i2n s17.2.2.1) 0)) (xget s17.2.2.2.2.2.2.2.2.2 (i2n s17.2.2.1) 0)) s17.2.2.2.1) (ieq (xget s17.2.2.2.2.2.2.2.2.2 (i2n (iadd .i64 s17.2.2.1 1)) 0) 1))
                                            (some (.inr false))
                                            (chk (okIx (iadd .i64 s17.2.2.1 1) (xlen s17.2.2.2.2.2.2.2.2.2))
                                            (cond (ilt (xget s17.2.2.2.2.2.2.2.2.2 (i2n (iadd .i64 s17.2.2.1 1)) 0) 0)
                                              (some (.inr false))
                                              (chk (okIx (iadd .i64 s17.2.2.1 1) (xlen s17.2.2.2.2.2.2.2.2.2))
                                              (cond (igt (xget s17.2.2.2.2.2.2.2.2.2 (i2n (iadd .i64 s17.2.2.1 1)) 0) 1)
                                                (some (.inr false))
                                                (some (.inl (s17.1, (s17.2.1, ((iadd .i64 s17.2.2.1 1), (s17.2.2.2.1, (s17.2.2.2.2.1, (s17.2.2.2.2.2.1, (s17.2.2.2.2.2.2.1, (s17.2.2.2.2.2.2.2.1, s17.2.2.2.2.2.2.2.2)))))))))))))))))))))))
                                      (some (.inr true))))
                                    ((n2i (xlen r3.1.2)), (r4, (0, (r3.1.1, (r3.1.2, (r3.2.1, (r3.2.2, (r10.1.1, (r10.1.2, r11.1)))))))))))))))))))))))))))

noncomputable def F_l_szRegister (x : ((Int × (List Int)) × Int)) : Option Int :=
  (Option.bind (F_l_szInt64S (x.1.2, x.2)) fun r1 =>
    (cond (ilt r1 0)
      (some (-1))
      (some r1)))

noncomputable def F_s_l10Full (x : (Int × Int)) : Option Bool :=
  (Option.bind (F_s_l10Power x) fun r1 =>
    (some (ile (isub .i64 r1 1) 1000000000000)))

noncomputable def F_s_l09Ok (x : (Int × (List Int))) : Option Bool :=
  (Option.bind (F_s_l02Ok x) fun r1 =>
    (cond r1
      (Option.bind (F_s_l10Full (x.1, (n2i (xlen x.2)))) fun r3 =>
        (some r3))
      (some false)))

noncomputable def F_s_l09Low (x : (Int × Int)) : Option Int :=
  (Option.bind (F_s_l10Power x) fun r1 =>
    (chk (okDiv 2)
    (some (iquo .i64 r1 2))))

noncomputable def F_s_l09In (x : (Int × (Int × Int))) : Option Bool :=
  (Option.bind (F_s_l09Low (x.1, x.2.1)) fun r1 =>
    (Option.bind (F_s_l10Power (x.1, x.2.1)) fun r2 =>
      (Option.bind (F_s_l00In (x.2.2, ((isub .i64 0 r1), (isub .i64 (isub .i64 r2 1) r1)))) fun r3 =>
        (some r3))))

noncomputable def F_s_l09Number (x : (Int × (List Int))) : Option Int :=
  (Option.bind (F_s_l02Value x) fun r1 =>
    (Option.bind (F_s_l09In (x.1, ((n2i (xlen x.2)), r1))) fun r2 =>
      (cond (bnot r2)
        (Option.bind (F_s_l10Power (x.1, (n2i (xlen x.2)))) fun r4 =>
          (some (isub .i64 r1 r4)))
        (some r1))))

noncomputable def F_s_NumberOf (x : (Int × (List Int))) : Option (Int × Int) :=
  (Option.bind (F_s_l09Ok x) fun r1 =>
    (cond (bnot r1)
      (some (0, 1))
      (Option.bind (F_s_l09Number x) fun r3 =>
        (some (r3, 0)))))

noncomputable def F_l_toRegister (x : (Int × (List Int))) : Option (Int × (List Int)) :=
  (Option.bind (F_l_toInt64S x.2) fun r1 =>
    (some (x.1, r1)))

noncomputable def F_i_power (x : (Int × Int)) : Option Int :=
  (iter (σ := (Int × (Int × (Int × Int)))) (fun s1 =>
    (cond (ilt s1.2.2.2 s1.2.2.1)
      (cond (igt (isub .i64 (imul .i64 s1.2.1 s1.1) 1) 1000000000000)
        (some (.inr 0))
        (some (.inl (s1.1, ((imul .i64 s1.2.1 s1.1), (s1.2.2.1, (iadd .i64 s1.2.2.2 1)))))))
      (some (.inr s1.2.1))))
    (x.1, (1, (x.2, 0))))

noncomputable def F_i_numbersOf (x : (Int × Int)) : Option Int :=
  (Option.bind (F_i_isBase x.1) fun r1 =>
    (cond (bnot r1)
      (some 0)
      (Option.bind (F_i_isRegisterWidth x.2) fun r3 =>
        (cond (bnot r3)
          (some 0)
          (Option.bind (F_i_power x) fun r5 =>
            (some r5))))))

noncomputable def F_i_Register_size (x : (Int × (List Int))) : Option Int :=
  (Option.bind (F_i_ValidRegister x) fun r1 =>
    (cond (bnot r1)
      (some 0)
      (Option.bind (F_i_Register_width x) fun r3 =>
        (Option.bind (F_i_numbersOf (x.1, r3)) fun r4 =>
          (some r4)))))

noncomputable def F_i_Register_number (x : (Int × (List Int))) : Option Int :=
  (Option.bind (F_i_Register_size x) fun r1 =>
    (Option.bind (F_i_Register_value x) fun r2 =>
      (chk (okDiv 2)
      (cond (ile r2 (isub .i64 (isub .i64 r1 1) (iquo .i64 r1 2)))
        (some r2)
        (some (isub .i64 r2 r1))))))

noncomputable def F_i_NumberOf (x : (Int × (List Int))) : Option (Int × Int) :=
  (Option.bind (F_i_Register_size x) fun r1 =>
    (cond (ieq r1 0)
      (some (0, 1))
      (Option.bind (F_i_Register_number x) fun r3 =>
        (some (r3, 0)))))

noncomputable def F_l_eqRegister (x : ((Int × (List Int)) × (Int × (List Int)))) : Option Bool :=
  (cond (ine x.1.1 x.2.1)
    (some false)
    (Option.bind (F_l_eqInt64S (x.1.2, x.2.2)) fun r2 =>
      (cond (bnot r2)
        (some false)
        (some true))))

noncomputable def F_l_FnExactNumberOf (x : (Int × (List Int))) : Option Bool :=
  (Option.bind (F_l_szRegister (x, 1048576)) fun r1 =>
    (cond (ilt r1 0)
      (some true)
      (Option.bind (F_l_toRegister x) fun r3 =>
        (Option.bind (F_s_NumberOf r3) fun r4 =>
          (Option.bind (F_l_toRegister x) fun r5 =>
            (Option.bind (F_i_NumberOf r5) fun r6 =>
              (cond (ine r6.1 r4.1)
                (some false)
                (cond (ine r6.2 r4.2)
                  (some false)
                  (Option.bind (F_l_toRegister x) fun r9 =>
                    (Option.bind (F_l_eqRegister (r5, r9)) fun r10 =>
                      (cond (bnot r10)
                        (some false)
                        (some true))))))))))))

noncomputable def F_s_l16Half (x : ((Int × (List Int)) × Bool)) : Option (Int × (List Int)) :=
  (Option.bind (F_s_l16Own x.1) fun r1 =>
    (cond x.2
      (iter (σ := (Int × (Int × ((List Int) × (Int × (List Int)))))) (fun s3 =>
        (cond (ilt s3.1 (n2i (xlen s3.2.2.2.2)))
          (Option.bind (F_s_l16Add (s3.2.2.2, s3.1)) fun r5 =>
            (some (.inl ((iadd .i64 s3.1 2), (s3.2.1, (s3.2.2.1, r5))))))
          (some (.inr s3.2.2.2))))
        (1, (0, (([] : (List Int)), r1))))
      (iter (σ := (Int × (Int × ((List Int) × (Int × (List Int)))))) (fun s3 =>
        (cond (ilt s3.1 (n2i (xlen s3.2.2.2.2)))
          (Option.bind (F_s_l16Add (s3.2.2.2, s3.1)) fun r5 =>
            (some (.inl ((iadd .i64 s3.1 2), (s3.2.1, (s3.2.2.1, r5))))))
          (some (.inr s3.2.2.2))))
        (2, (0, (([] : (List Int)), r1))))))

noncomputable def F_s_HalfCycle (x : ((Int × (List Int)) × Bool)) : Option ((Int × (List Int)) × Int) :=
  (Option.bind (F_s_l16Ok x.1) fun r1 =>
    (cond (bnot r1)
      (some ((0, ([] : (List Int))), 1))
      (Option.bind (F_s_l16Half (x.1, x.2)) fun r3 =>
        (some (r3, 0)))))

noncomputable def F_i_Engine_half (x : ((Int × (List Int)) × Int)) : Option (Int × (List Int)) :=
  (Option.bind (F_i_Engine_copied x.1) fun r1 =>
    (iter (σ := (Int × (Int × ((List Int) × (Int × ((List Int) × (Int × (List Int)))))))) (fun s2 =>
      (cond (ilt s2.1 (n2i (xlen s2.2.2.2.2.2.2)))
        (chk (okIx (isub .i64 s2.1 1) (xlen s2.2.2.2.2.2.2))
        (chk (okIx s2.1 (xlen s2.2.2.2.2.2.2))
        (Option.bind (F_i_modulus s2.2.1) fun r4 =>
          (chk (okDiv r4)
          (chk (okIx (isub .i64 s2.1 1) (xlen s2.2.2.2.2.2.2))
          (some (.inl ((iadd .i64 s2.1 2), (s2.2.1, (s2.2.2.1, (s2.2.2.2.1, (s2.2.2.2.2.1, (s2.2.2.2.2.2.1, (xset s2.2.2.2.2.2.2 (i2n (isub .i64 s2.1 1)) (irem (iadd .i64 (xget s2.2.2.2.2.2.2 (i2n (isub .i64 s2.1 1)) 0) (xget s2.2.2.2.2.2.2 (i2n s2.1) 0)) r4)))))))))))))))
        (some (.inr s2.2.2.2.2.2))))
      (x.2, (x.1.1, (x.1.2, (0, (([] : (List Int)), r1)))))))

noncomputable def F_i_HalfCycle (x : ((Int × (List Int)) × Bool)) : Option ((Int × (List Int)) × Int) :=
  (Option.bind (F_i_ValidEngine x.1) fun r1 =>
    (cond (bnot r1)
      (some ((0, ([] : (List Int))), 1))
      (cond x.2
        (Option.bind (F_i_Engine_half (x.1, 1)) fun r4 =>
          (some (r4, 0)))
        (Option.bind (F_i_Engine_half (x.1, 2)) fun r4 =>
          (some (r4, 0))))))

noncomputable def F_l_FnExactHalfCycle (x : ((Int × (List Int)) × Bool)) : Option Bool :=
  (Option.bind (F_l_szEngine (x.1, 1048576)) fun r1 =>
    (cond (ilt r1 0)
      (some true)
      (Option.bind (F_l_toEngine x.1) fun r3 =>
        (Option.bind (F_s_HalfCycle (r3, x.2)) fun r4 =>
          (Option.bind (F_l_toEngine x.1) fun r5 =>
            (Option.bind (F_i_HalfCycle (r5, x.2)) fun r6 =>
              (Option.bind (F_l_eqEngine (r6.1, r4.1)) fun r7 =>
                (cond (bnot r7)
                  (some false)
                  (cond (ine r6.2 r4.2)
                    (some false)
                    (Option.bind (F_l_toEngine x.1) fun r10 =>
                      (Option.bind (F_l_eqEngine (r5, r10)) fun r11 =>
                        (cond (bnot r11)
                          (some false)
                          (Option.bind (F_l_markEngine (r5, 1)) fun r13 =>
                            (cond (ilt r13.1 0)
                              (some false)
                              (Option.bind (F_l_eqEngine (r6.1, r4.1)) fun r15 =>
                                (cond (bnot r15)
                                  (some false)
                                  (cond (ine r6.2 r4.2)
                                    (some false)
                                    (Option.bind (F_l_markEngine (r6.1, 1)) fun r18 =>
                                      (Option.bind (F_l_heldEngine ((r6.1.1, r18.2.2), 1)) fun r19 =>
                                        (cond (ilt r19 0)
                                          (some false)
                                          (cond (ine r19 r18.1)
                                            (some false)
                                            (Option.bind (F_l_toEngine x.1) fun r22 =>
                                              (Option.bind (F_i_HalfCycle (r22, x.2)) fun r23 =>
                                                (Option.bind (F_l_eqEngine (r23.1, r4.1)) fun r24 =>
                                                  (cond (bnot r24)
                                                    (some false)
                                                    (cond (ine r23.2 r4.2)
                                                      (some false)
                                                      (Option.bind (F_l_heldEngine ((r6.1.1, r18.2.2), 1)) fun r27 =>
                                                        (cond (ilt r27 0)
                                                          (some false)
                                                          (cond (ine r27 r18.1)
                                                            (some false)
                                                            (some true))))))))))))))))))))))))))))))

noncomputable def F_s_ShiftRegister (x : ((Int × (List Int)) × Int)) : Option ((Int × (List Int)) × Int) :=
  (Option.bind (F_s_l02Ok x.1) fun r1 =>
    (cond (bnot r1)
      (some ((0, ([] : (List Int))), 1))
      (Option.bind (F_s_l00In (x.2, ((-16), 16))) fun r3 =>
        (cond (bnot r3)
          (some ((0, ([] : (List Int))), 2))
          (iter (σ := (Int × (Int × (Int × ((List Int) × (Int × ((List Int) × (Int × (List Int))))))))) (fun s5 =>
            (cond (ilt s5.2.1 (n2i (xlen s5.2.2.2.1)))
              (Option.bind (F_s_l00In ((isub .i64 s5.2.1 s5.1), (0, (isub .i64 (n2i (xlen s5.2.2.2.1)) 1)))) fun r7 =>
                (cond r7
                  (chk (okIx (isub .i64 s5.2.1 s5.1) (xlen s5.2.2.2.1))
                  (chk (okRoom (xlen s5.2.2.2.2.2.2.2) (xlen ((xget s5.2.2.2.1 (i2n (isub .i64 s5.2.1 s5.1)) 0) :: ([] : (List Int)))) 8)
                  (some (.inl (s5.1, ((iadd .i64 s5.2.1 1), (s5.2.2.1, (s5.2.2.2.1, (s5.2.2.2.2.1, (s5.2.2.2.2.2.1, (s5.2.2.2.2.2.2.1, (xapp s5.2.2.2.2.2.2.2 ((xget s5.2.2.2.1 (i2n (isub .i64 s5.2.1 s5.1)) 0) :: ([] : (List Int)))))))))))))))
                  (chk (okRoom (xlen s5.2.2.2.2.2.2.2) (xlen (0 :: ([] : (List Int)))) 8)
                  (some (.inl (s5.1, ((iadd .i64 s5.2.1 1), (s5.2.2.1, (s5.2.2.2.1, (s5.2.2.2.2.1, (s5.2.2.2.2.2.1, (s5.2.2.2.2.2.2.1, (xapp s5.2.2.2.2.2.2.2 (0 :: ([] : (List Int))))))))))))))))
              (Option.map Sum.inr
                (Option.bind (F_s_l02Ok s5.2.2.2.2.2.2) fun r7 =>
                (cond (bnot r7)
                  (some ((0, ([] : (List Int))), 5))
                  (some (s5.2.2.2.2.2.2, 0)))))))
            (x.2, (0, (x.1.1, (x.1.2, (0, (([] : (List Int)), (x.1.1, ([] : (List Int))))))))))))))

noncomputable def F_l_markRegister (x : ((Int × (List Int)) × Int)) : Option (Int × (Int × (List Int))) :=
  (Option.bind (F_l_markInt64S (x.1.2, x.2)) fun r1 =>
    (some (r1.1, (x.1.1, r1.2))))

noncomputable def F_l_heldRegister (x : ((Int × (List Int)) × Int)) : Option Int :=
  (Option.bind (F_l_heldInt64S (x.1.2, x.2)) fun r1 =>
    (cond (ilt r1 0)
      (some (-1))
      (some r1)))

noncomputable def F_l_FnExactShiftRegister (x : ((Int × (List Int)) × Int)) : Option Bool :=
  (Option.bind (F_l_szRegister (x.1, 1048576)) fun r1 =>
    (cond (ilt r1 0)
      (some true)
      (Option.bind (F_l_toRegister x.1) fun r3 =>
        (Option.bind (F_s_ShiftRegister (r3, x.2)) fun r4 =>
          (Option.bind (F_l_toRegister x.1) fun r5 =>
            (Option.bind (F_i_ShiftRegister (r5, x.2)) fun r6 =>
              (Option.bind (F_l_eqRegister (r6.1, r4.1)) fun r7 =>
                (cond (bnot r7)
                  (some false)
                  (cond (ine r6.2 r4.2)
                    (some false)
                    (Option.bind (F_l_toRegister x.1) fun r10 =>
                      (Option.bind (F_l_eqRegister (r5, r10)) fun r11 =>
                        (cond (bnot r11)
                          (some false)
                          (Option.bind (F_l_markRegister (r5, 1)) fun r13 =>
                            (cond (ilt r13.1 0)
                              (some false)
                              (Option.bind (F_l_eqRegister (r6.1, r4.1)) fun r15 =>
                                (cond (bnot r15)
                                  (some false)
                                  (cond (ine r6.2 r4.2)
                                    (some false)
                                    (Option.bind (F_l_markRegister (r6.1, 1)) fun r18 =>
                                      (Option.bind (F_l_heldRegister ((r6.1.1, r18.2.2), 1)) fun r19 =>
                                        (cond (ilt r19 0)
                                          (some false)
                                          (cond (ine r19 r18.1)
                                            (some false)
                                            (Option.bind (F_l_toRegister x.1) fun r22 =>
                                              (Option.bind (F_i_ShiftRegister (r22, x.2)) fun r23 =>
                                                (Option.bind (F_l_eqRegister (r23.1, r4.1)) fun r24 =>
                                                  (cond (bnot r24)
                                                    (some false)
                                                    (cond (ine r23.2 r4.2)
                                                      (some false)
                                                      (Option.bind (F_l_heldRegister ((r6.1.1, r18.2.2), 1)) fun r27 =>
                                                        (cond (ilt r27 0)
                                                          (some false)
                                                          (cond (ine r27 r18.1)
                                                            (some false)
                                                            (some true))))))))))))))))))))))))))))))

noncomputable def F_s_l02Two (x : ((Int × (List Int)) × (Int × (List Int)))) : Option Int :=
  (Option.bind (F_s_l02Ok x.1) fun r1 =>
    (cond (bnot r1)
      (some 1)
      (Option.bind (F_s_l02Ok x.2) fun r3 =>
        (cond (bnot r3)
          (some 1)
          (cond (ine x.1.1 x.2.1)
            (some 6)
            (cond (ine (n2i (xlen x.1.2)) (n2i (xlen x.2.2)))
              (some 6)
              (some 0)))))))

noncomputable def F_s_l02Carries (x : ((Int × (List Int)) × (Int × (List Int)))) : Option (List Int) :=
  (iter (σ := (Int × (Int × ((List (Int × (List Int))) × ((List (Int × (List Int))) × (List Int)))))) (fun s1 =>
    (cond (ilt s1.2.1 (n2i (xlen (xget s1.2.2.1 0 (0, ([] : (List Int)))).2)))
      (chk (okIx s1.2.1 (xlen (xget s1.2.2.1 0 (0, ([] : (List Int)))).2))
      (chk (okIx s1.2.1 (xlen (xget s1.2.2.2.1 0 (0, ([] : (List Int)))).2))
      (chk (okDiv (xget s1.2.2.1 0 (0, ([] : (List Int)))).1)
      (chk (okRoom (xlen s1.2.2.2.2) (xlen ((iquo .i64 (iadd .i64 (iadd .i64 (xget (xget s1.2.2.1 0 (0, ([] : (List Int)))).2 (i2n s1.2.1) 0) (xget (xget s1.2.2.2.1 0 (0, ([] : (List Int)))).2 (i2n s1.2.1) 0)) s1.1) (xget s1.2.2.1 0 (0, ([] : (List Int)))).1) :: ([] : (List Int)))) 8)
      (some (.inl ((iquo .i64 (iadd .i64 (iadd .i64 (xget (xget s1.2.2.1 0 (0, ([] : (List Int)))).2 (i2n s1.2.1) 0) (xget (xget s1.2.2.2.1 0 (0, ([] : (List Int)))).2 (i2n s1.2.1) 0)) s1.1) (xget s1.2.2.1 0 (0, ([] : (List Int)))).1), ((iadd .i64 s1.2.1 1), (s1.2.2.1, (s1.2.2.2.1, (xapp s1.2.2.2.2 ((iquo .i64 (iadd .i64 (iadd .i64 (xget (xget s1.2.2.1 0 (0, ([] : (List Int)))).2 (i2n s1.2.1) 0) (xget (xget s1.2.2.2.1 0 (0, ([] : (List Int)))).2 (i2n s1.2.1) 0)) s1.1) (xget s1.2.2.1 0 (0, ([] : (List Int)))).1) :: ([] : (List Int))))))))))))))
      (some (.inr s1.2.2.2.2))))
    (0, (0, ((x.1 :: ([] : (List (Int × (List Int))))), ((x.2 :: ([] : (List (Int × (List Int))))), (0 :: ([] : (List Int))))))))

noncomputable def F_s_CarriesOf (x : ((Int × (List Int)) × (Int × (List Int)))) : Option ((List Int) × Int) :=
  (Option.bind (F_s_l02Two (x.1, x.2)) fun r1 =>
    (cond (ine r1 0)
      (some (([] : (List Int)), r1))
      (Option.bind (F_s_l02Carries (x.1, x.2)) fun r3 =>
        (some (r3, 0)))))

noncomputable def F_i_signals (x : ((Int × (List Int)) × (Int × (List Int)))) : Option (List (Bool × Bool)) :=
  (iter (σ := (Int × (Int × (Int × ((List Int) × (Int × ((List Int) × (List (Bool × Bool))))))))) (fun s1 =>
    (cond (ilt s1.2.1 s1.1)
      (chk (okIx s1.2.1 (xlen s1.2.2.2.1))
      (chk (okIx s1.2.1 (xlen s1.2.2.2.2.2.1))
      (chk (okRoom (xlen s1.2.2.2.2.2.2) (xlen (((ige (iadd .i64 (xget s1.2.2.2.1 (i2n s1.2.1) 0) (xget s1.2.2.2.2.2.1 (i2n s1.2.1) 0)) s1.2.2.1), (ieq (iadd .i64 (xget s1.2.2.2.1 (i2n s1.2.1) 0) (xget s1.2.2.2.2.2.1 (i2n s1.2.1) 0)) (isub .i64 s1.2.2.1 1))) :: ([] : (List (Bool × Bool))))) 2)
      (some (.inl (s1.1, ((iadd .i64 s1.2.1 1), (s1.2.2.1, (s1.2.2.2.1, (s1.2.2.2.2.1, (s1.2.2.2.2.2.1, (xapp s1.2.2.2.2.2.2 (((ige (iadd .i64 (xget s1.2.2.2.1 (i2n s1.2.1) 0) (xget s1.2.2.2.2.2.1 (i2n s1.2.1) 0)) s1.2.2.1), (ieq (iadd .i64 (xget s1.2.2.2.1 (i2n s1.2.1) 0) (xget s1.2.2.2.2.2.1 (i2n s1.2.1) 0)) (isub .i64 s1.2.2.1 1))) :: ([] : (List (Bool × Bool))))))))))))))))
      (some (.inr s1.2.2.2.2.2.2))))
    ((n2i (xlen x.1.2)), (0, (x.1.1, (x.1.2, (x.2.1, (x.2.2, ([] : (List (Bool × Bool))))))))))

noncomputable def F_i_SignalsOf (x : ((Int × (List Int)) × (Int × (List Int)))) : Option ((List (Bool × Bool)) × Int) :=
  (Option.bind (F_i_pairCode (x.1, x.2)) fun r1 =>
    (cond (ine r1 0)
      (some (([] : (List (Bool × Bool))), r1))
      (Option.bind (F_i_signals (x.1, x.2)) fun r3 =>
        (some (r3, 0)))))

noncomputable def F_i_SignalText (x : (List (Bool × Bool))) : Option ByteArray :=
  (iter (σ := (Int × (Int × ((List Int) × (List (Bool × Bool)))))) (fun s1 =>
    (cond (ilt s1.2.1 s1.1)
      (chk (okIx s1.2.1 (xlen s1.2.2.2))
      (cond (xget s1.2.2.2 (i2n s1.2.1) (false, false)).1
        (chk (okRoom (xlen s1.2.2.1) (xlen (109 :: ([] : (List Int)))) 1)
        (some (.inl (s1.1, ((iadd .i64 s1.2.1 1), ((xapp s1.2.2.1 (109 :: ([] : (List Int)))), s1.2.2.2))))))
        (cond (xget s1.2.2.2 (i2n s1.2.1) (false, false)).2
          (chk (okRoom (xlen s1.2.2.1) (xlen (112 :: ([] : (List Int)))) 1)
          (some (.inl (s1.1, ((iadd .i64 s1.2.1 1), ((xapp s1.2.2.1 (112 :: ([] : (List Int)))), s1.2.2.2))))))
          (chk (okRoom (xlen s1.2.2.1) (xlen (45 :: ([] : (List Int)))) 1)
          (some (.inl (s1.1, ((iadd .i64 s1.2.1 1), ((xapp s1.2.2.1 (45 :: ([] : (List Int)))), s1.2.2.2)))))))))
      (some (.inr (b2s s1.2.2.1)))))
    ((n2i (xlen x)), (0, (([] : (List Int)), x))))

noncomputable def F_i_areSignals (x : (List (Bool × Bool))) : Option Bool :=
  (Option.bind (F_i_isRegisterWidth (n2i (xlen x))) fun r1 =>
    (some r1))

noncomputable def F_i_JoinSignals (x : ((Bool × Bool) × (Bool × Bool))) : Option (Bool × Bool) :=
  (cond x.2.1
    (cond x.1.2
      (some (true, x.2.2))
      (some (true, false)))
    (cond x.2.2
      (cond x.1.2
        (some (x.1.1, x.2.2))
        (some (x.1.1, false)))
      (cond x.1.2
        (some (false, x.2.2))
        (some (false, false)))))

noncomputable def F_i_PrefixSignals (x : (List (Bool × Bool))) : Option ((List (Bool × Bool)) × Int) :=
  (Option.bind (F_i_areSignals x) fun r1 =>
    (cond (bnot r1)
      (some (([] : (List (Bool × Bool))), 2))
      (chk (okIx 0 (xlen x))
      (iter (σ := (Int × ((List (Bool × Bool)) × (List (Bool × Bool))))) (fun s3 =>
        (cond (ilt s3.1 (n2i (xlen s3.2.1)))
          (chk (okIx (isub .i64 s3.1 1) (xlen s3.2.2))
          (chk (okIx s3.1 (xlen s3.2.1))
          (Option.bind (F_i_JoinSignals ((xget s3.2.2 (i2n (isub .i64 s3.1 1)) (false, false)), (xget s3.2.1 (i2n s3.1) (false, false)))) fun r5 =>
            (chk (okRoom (xlen s3.2.2) (xlen (r5 :: ([] : (List (Bool × Bool))))) 2)
            (some (.inl ((iadd .i64 s3.1 1), (s3.2.1, (xapp s3.2.2 (r5 :: ([] : (List (Bool × Bool)))))))))))))
          (some (.inr (s3.2.2, 0)))))
        (1, (x, ((xget x (i2n 0) (false, false)) :: ([] : (List (Bool × Bool))))))))))

noncomputable def F_i_Signal_through (x : ((Bool × Bool) × Int)) : Option Int :=
  (cond x.1.1
    (some 1)
    (cond x.1.2
      (cond (ieq x.2 1)
        (some 1)
        (some 0))
      (some 0)))

noncomputable def F_i_CarryThrough (x : ((Bool × Bool) × Int)) : Option (Int × Int) :=
  (Option.bind (F_i_between (x.2, (0, 1))) fun r1 =>
    (cond (bnot r1)
      (some (0, 2))
      (Option.bind (F_i_Signal_through (x.1, x.2)) fun r3 =>
        (some (r3, 0)))))

noncomputable def F_i_aheadCode (x : ((Int × (List Int)) × ((Int × (List Int)) × Int))) : Option Int :=
  (Option.bind (F_i_pairCode (x.1, x.2.1)) fun r1 =>
    (cond (ine r1 0)
      (some r1)
      (Option.bind (F_i_isRegisterWidth x.2.2) fun r3 =>
        (cond (bnot r3)
          (some 2)
          (some 0)))))

noncomputable def F_i_joined (x : (List (Bool × Bool))) : Option (Bool × Bool) :=
  (chk (okIx 0 (xlen x))
  (chk (okTo 1 (xlen x))
  (iter (σ := (Int × (Int × (Bool × (Bool × (Bool × (Bool × (List (Bool × Bool))))))))) (fun s1 =>
    (cond (ilt s1.2.1 s1.1)
      (chk (okIx s1.2.1 (xlen s1.2.2.2.2.2.2))
      (Option.bind (F_i_JoinSignals ((s1.2.2.2.2.1, s1.2.2.2.2.2.1), (xget s1.2.2.2.2.2.2 (i2n s1.2.1) (false, false)))) fun r3 =>
        (some (.inl (s1.1, ((iadd .i64 s1.2.1 1), (s1.2.2.1, (s1.2.2.2.1, (r3.1, (r3.2, s1.2.2.2.2.2.2))))))))))
      (some (.inr (s1.2.2.2.2.1, s1.2.2.2.2.2.1)))))
    ((n2i (xlen (xsub x (i2n 1) (xlen x)))), (0, (false, (false, ((xget x (i2n 0) (false, false)).1, ((xget x (i2n 0) (false, false)).2, (xsub x (i2n 1) (xlen x)))))))))))

noncomputable def F_i_groups (x : ((List (Bool × Bool)) × Int)) : Option (List (Bool × Bool)) :=
  (iter (σ := (Int × (Int × ((List (Bool × Bool)) × (List (Bool × Bool)))))) (fun s1 =>
    (cond (ilt s1.2.1 (n2i (xlen s1.2.2.1)))
      (chk (okTo (imin (iadd .i64 s1.2.1 s1.1) (n2i (xlen s1.2.2.1))) (xlen s1.2.2.1))
      (chk (okTo s1.2.1 (i2n (imin (iadd .i64 s1.2.1 s1.1) (n2i (xlen s1.2.2.1)))))
      (Option.bind (F_i_joined (xsub s1.2.2.1 (i2n s1.2.1) (i2n (imin (iadd .i64 s1.2.1 s1.1) (n2i (xlen s1.2.2.1)))))) fun r3 =>
        (chk (okRoom (xlen s1.2.2.2) (xlen (r3 :: ([] : (List (Bool × Bool))))) 2)
        (some (.inl (s1.1, ((iadd .i64 s1.2.1 s1.1), (s1.2.2.1, (xapp s1.2.2.2 (r3 :: ([] : (List (Bool × Bool))))))))))))))
      (some (.inr s1.2.2.2))))
    (x.2, (0, (x.1, ([] : (List (Bool × Bool)))))))

noncomputable def F_i_carriesAhead (x : ((List (Bool × Bool)) × Int)) : Option (List Int) :=
  (Option.bind (F_i_groups x) fun r1 =>
    (iter (σ := (Int × (Int × (Int × ((List (Bool × Bool)) × ((List Int) × (List (Bool × Bool)))))))) (fun s2 =>
      (cond (ilt s2.2.2.1 s2.2.1)
        (chk (okIx s2.2.2.1 (xlen s2.2.2.2.2.2))
        (chk (okIx s2.2.2.1 (xlen s2.2.2.2.2.1))
        (Option.bind (F_i_Signal_through ((xget s2.2.2.2.2.2 (i2n s2.2.2.1) (false, false)), (xget s2.2.2.2.2.1 (i2n s2.2.2.1) 0))) fun r4 =>
          (chk (okRoom (xlen s2.2.2.2.2.1) (xlen (r4 :: ([] : (List Int)))) 8)
          (some (.inl (s2.1, (s2.2.1, ((iadd .i64 s2.2.2.1 1), (s2.2.2.2.1, ((xapp s2.2.2.2.2.1 (r4 :: ([] : (List Int)))), s2.2.2.2.2.2)))))))))))
        (Option.map Sum.inr
          (iter (σ := (Int × (Int × (Int × (Int × ((List Int) × ((List Int) × (List (Bool × Bool))))))))) (fun s4 =>
          (cond (ilt s4.2.2.2.1 s4.2.2.1)
            (chk (okIx s4.2.2.2.1 (xlen s4.2.2.2.2.2.2))
            (chk (okDiv s4.1)
            (cond (ieq (irem s4.2.2.2.1 s4.1) 0)
              (chk (okDiv s4.1)
              (chk (okIx (iquo .i64 s4.2.2.2.1 s4.1) (xlen s4.2.2.2.2.1))
              (chk (okRoom (xlen s4.2.2.2.2.2.1) (xlen ((xget s4.2.2.2.2.1 (i2n (iquo .i64 s4.2.2.2.1 s4.1)) 0) :: ([] : (List Int)))) 8)
              (Option.bind (F_i_Signal_through ((xget s4.2.2.2.2.2.2 (i2n s4.2.2.2.1) (false, false)), (xget s4.2.2.2.2.1 (i2n (iquo .i64 s4.2.2.2.1 s4.1)) 0))) fun r7 =>
                (some (.inl (s4.1, (r7, (s4.2.2.1, ((iadd .i64 s4.2.2.2.1 1), (s4.2.2.2.2.1, ((xapp s4.2.2.2.2.2.1 ((xget s4.2.2.2.2.1 (i2n (iquo .i64 s4.2.2.2.1 s4.1)) 0) :: ([] : (List Int)))), s4.2.2.2.2.2.2))))))))))))
              (chk (okRoom (xlen s4.2.2.2.2.2.1) (xlen (s4.2.1 :: ([] : (List Int)))) 8)
              (Option.bind (F_i_Signal_through ((xget s4.2.2.2.2.2.2 (i2n s4.2.2.2.1) (false, false)), s4.2.1)) fun r7 =>
                (some (.inl (s4.1, (r7, (s4.2.2.1, ((iadd .i64 s4.2.2.2.1 1), (s4.2.2.2.2.1, ((xapp s4.2.2.2.2.2.1 (s4.2.1 :: ([] : (List Int)))), s4.2.2.2.2.2.2)))))))))))))
            (Option.map Sum.inr
              (chk (okIx (isub .i64 (n2i (xlen s4.2.2.2.2.1)) 1) (xlen s4.2.2.2.2.1))
            (chk (okRoom (xlen s4.2.2.2.2.2.1) (xlen ((xget s4.2.2.2.2.1 (i2n (isub .i64 (n2i (xlen s4.2.2.2.2.1)) 1)) 0) :: ([] : (List Int)))) 8)
            (some (xapp s4.2.2.2.2.2.1 ((xget s4.2.2.2.2.1 (i2n (isub .i64 (n2i (xlen s4.2.2.2.2.1)) 1)) 0) :: ([] : (List Int))))))))))
          (s2.1, (0, ((n2i (xlen s2.2.2.2.1)), (0, (s2.2.2.2.2.1, (([] : (List Int)), s2.2.2.2.1))))))))))
      (x.2, ((n2i (xlen r1)), (0, (x.1, ((0 :: ([] : (List Int))), r1)))))))

noncomputable def F_i_CarriesAhead (x : ((Int × (List Int)) × ((Int × (List Int)) × Int))) : Option ((List Int) × Int) :=
  (Option.bind (F_i_aheadCode (x.1, (x.2.1, x.2.2))) fun r1 =>
    (cond (ine r1 0)
      (some (([] : (List Int)), r1))
      (Option.bind (F_i_signals (x.1, x.2.1)) fun r3 =>
        (Option.bind (F_i_carriesAhead (r3, x.2.2)) fun r4 =>
          (some (r4, 0))))))

noncomputable def F_i_GroupSignals (x : ((List (Bool × Bool)) × Int)) : Option ((List (Bool × Bool)) × Int) :=
  (Option.bind (F_i_areSignals x.1) fun r1 =>
    (cond (bnot r1)
      (some (([] : (List (Bool × Bool))), 2))
      (Option.bind (F_i_isRegisterWidth x.2) fun r3 =>
        (cond (bnot r3)
          (some (([] : (List (Bool × Bool))), 2))
          (Option.bind (F_i_groups x) fun r5 =>
            (some (r5, 0)))))))

noncomputable def F_i_depth (x : (Int × Int)) : Option Int :=
  (chk (okDiv x.2)
  (some (isub .i64 (iadd .i64 (imul .i64 2 (imin x.1 x.2)) (iquo .i64 (isub .i64 (iadd .i64 x.1 x.2) 1) x.2)) 1)))

noncomputable def F_i_DepthAhead (x : (Int × Int)) : Option (Int × Int) :=
  (Option.bind (F_i_isRegisterWidth x.1) fun r1 =>
    (cond (bnot r1)
      (some (0, 2))
      (Option.bind (F_i_isRegisterWidth x.2) fun r3 =>
        (cond (bnot r3)
          (some (0, 2))
          (Option.bind (F_i_depth x) fun r5 =>
            (some (r5, 0)))))))

noncomputable def F_i_BestGroup (x : Int) : Option (Int × (Int × Int)) :=
  (Option.bind (F_i_isRegisterWidth x) fun r1 =>
    (cond (bnot r1)
      (some (0, (0, 2)))
      (iter (σ := (Int × (Int × Int))) (fun s3 =>
        (cond (ile s3.2.2 16)
          (Option.bind (F_i_depth (s3.1, s3.2.2)) fun r5 =>
            (Option.bind (F_i_depth (s3.1, s3.2.1)) fun r6 =>
              (cond (ilt r5 r6)
                (some (.inl (s3.1, (s3.2.2, (iadd .i64 s3.2.2 1)))))
                (some (.inl (s3.1, (s3.2.1, (iadd .i64 s3.2.2 1))))))))
          (Option.map Sum.inr
            (Option.bind (F_i_depth (s3.1, s3.2.1)) fun r5 =>
            (some (s3.2.1, (r5, 0)))))))
        (x, (1, 2)))))

noncomputable def F_l_a2Same (x : ((List Int) × (List Int))) : Option Bool :=
  (cond (ine (n2i (xlen x.1)) (n2i (xlen x.2)))
    (some false)
    (iter (σ := (Int × ((List Int) × (List Int)))) (fun s2 =>
      (cond (ilt s2.1 (n2i (xlen s2.2.1)))
        (chk (okIx s2.1 (xlen s2.2.1))
        (chk (okIx s2.1 (xlen s2.2.2))
        (cond (ine (xget s2.2.1 (i2n s2.1) 0) (xget s2.2.2 (i2n s2.1) 0))
          (some (.inr false))
          (some (.inl ((iadd .i64 s2.1 1), s2.2))))))
        (some (.inr true))))
      (0, x)))

noncomputable def F_s_JoinSignals (x : ((Bool × Bool) × (Bool × Bool))) : Option (Bool × Bool) :=
  (cond x.2.1
    (cond x.2.2
      (some (true, x.1.2))
      (some (true, false)))
    (cond x.2.2
      (cond x.2.2
        (some x.1)
        (some (x.1.1, false)))
      (cond x.2.2
        (some (false, x.1.2))
        (some (false, false)))))

noncomputable def F_l_FnAhead (x : ((List Int) × (List Int))) : Option Bool :=
  (Option.bind (F_l_a2Long x) fun r1 =>
    (cond r1
      (some true)
      (Option.bind (F_s_A2Registers x.1) fun r3 =>
        (Option.bind (F_s_CarriesOf (r3.1, r3.2)) fun r4 =>
          (Option.bind (F_i_SignalsOf (r3.1, r3.2)) fun r5 =>
            (cond (ine r5.2 0)
              (some false)
              (cond (ine (n2i (xlen r5.1)) (n2i (xlen r3.1.2)))
                (some false)
                (Option.bind (F_i_SignalText r5.1) fun r8 =>
                  (cond (ine (n2i (slen r8)) (n2i (xlen r3.1.2)))
                    (some false)
                    (Option.bind (F_i_PrefixSignals r5.1) fun r10 =>
                      (cond (ine r10.2 0)
                        (some false)
                        (cond (ine (n2i (xlen r10.1)) (n2i (xlen r3.1.2)))
                          (some false)
                          (iter (σ := (Int × (Int × ((List Int) × (Int × ((List Int) × (Int × ((List Int) × ((List Int) × ((List (Bool × Bool)) × (List (Bool × Bool)))))))))))) (fun s13 =>
                            (cond (ilt s13.2.1 s13.1)
                              (chk (okIx s13.2.1 (xlen s13.2.2.2.2.2.2.2.2.2))
                              (Option.bind (F_i_CarryThrough ((xget s13.2.2.2.2.2.2.2.2.2 (i2n s13.2.1) (false, false)), 0)) fun r15 =>
                                (cond (ine r15.2 0)
                                  (some (.inr false))
                                  (chk (okIx (iadd .i64 s13.2.1 1) (xlen s13.2.2.2.2.2.2.2.1))
                                  (cond (ine r15.1 (xget s13.2.2.2.2.2.2.2.1 (i2n (iadd .i64 s13.2.1 1)) 0))
                                    (some (.inr false))
                                    (some (.inl (s13.1, ((iadd .i64 s13.2.1 1), (s13.2.2.1, (s13.2.2.2.1, (s13.2.2.2.2.1, (s13.2.2.2.2.2.1, (s13.2.2.2.2.2.2.1, (s13.2.2.2.2.2.2.2.1, s13.2.2.2.2.2.2.2.2)))))))))))))))
                              (Option.map Sum.inr
                                (Option.bind (F_l_a2At (s13.2.2.1, (0, 7))) fun r15 =>
                                (Option.bind (F_i_CarriesAhead ((s13.2.2.2.1, s13.2.2.2.2.1), ((s13.2.2.2.2.2.1, s13.2.2.2.2.2.2.1), (iadd .i64 1 r15)))) fun r16 =>
                                  (Option.bind (F_i_GroupSignals (s13.2.2.2.2.2.2.2.2.1, (iadd .i64 1 r15))) fun r17 =>
                                    (Option.bind (F_i_DepthAhead (s13.1, (iadd .i64 1 r15))) fun r18 =>
                                      (Option.bind (F_i_BestGroup s13.1) fun r19 =>
                                        (cond (ine r16.2 0)
                                          (some false)
                                          (Option.bind (F_l_a2Same (r16.1, s13.2.2.2.2.2.2.2.1)) fun r21 =>
                                            (cond (bnot r21)
                                              (some false)
                                              (cond (ine r17.2 0)
                                                (some false)
                                                (chk (okDiv (iadd .i64 1 r15))
                                                (cond (ine (n2i (xlen r17.1)) (iquo .i64 (isub .i64 (iadd .i64 s13.1 (iadd .i64 1 r15)) 1) (iadd .i64 1 r15)))
                                                  (some false)
                                                  (cond (ine r18.2 0)
                                                    (some false)
                                                    (cond (ine r19.2.2 0)
                                                      (some false)
                                                      (cond (igt r19.2.1 r18.1)
                                                        (some false)
                                                        (Option.bind (F_i_DepthAhead (s13.1, r19.1)) fun r28 =>
                                                          (chk (okIx 0 (xlen s13.2.2.2.2.2.2.2.2.1))
                                                          (iter (σ := (Int × (Int × (Int × (Int × (Int × ((List (Bool × Bool)) × ((List (Bool × Bool)) × (Bool × Bool))))))))) (fun s29 =>
                                                            (cond (ilt s29.2.2.2.2.1 s29.1)
                                                              (chk (okIx s29.2.2.2.2.1 (xlen s29.2.2.2.2.2.1))
                                                              (Option.bind (F_s_JoinSignals (s29.2.2.2.2.2.2.2, (xget s29.2.2.2.2.2.1 (i2n s29.2.2.2.2.1) (false, false)))) fun r31 =>
                                                                (some (.inl (s29.1, (s29.2.1, (s29.2.2.1, (s29.2.2.2.1, ((iadd .i64 s29.2.2.2.2.1 1), (s29.2.2.2.2.2.1, (s29.2.2.2.2.2.2.1, r31)))))))))))
                                                              (Option.map Sum.inr
                                                                (chk (okIx 0 (xlen s29.2.2.2.2.2.2.1))
                                                              (iter (σ := (Int × (Int × (Int × (Int × ((List (Bool × Bool)) × (Bool × (Bool × (Bool × Bool))))))))) (fun s31 =>
                                                                (cond (ilt s31.2.2.2.1 (n2i (xlen s31.2.2.2.2.1)))
                                                                  (chk (okIx s31.2.2.2.1 (xlen s31.2.2.2.2.1))
                                                                  (Option.bind (F_s_JoinSignals (s31.2.2.2.2.2.2.2, (xget s31.2.2.2.2.1 (i2n s31.2.2.2.1) (false, false)))) fun r33 =>
                                                                    (some (.inl (s31.1, (s31.2.1, (s31.2.2.1, ((iadd .i64 s31.2.2.2.1 1), (s31.2.2.2.2.1, (s31.2.2.2.2.2.1, (s31.2.2.2.2.2.2.1, r33)))))))))))
                                                                  (Option.map Sum.inr
                                                                    (cond (ieq s31.2.2.1 0)
                                                                    (cond (ieq s31.2.1 s31.1)
                                                                      (some (band (beqv s31.2.2.2.2.2.1 s31.2.2.2.2.2.2.2.1) (band (beqv s31.2.2.2.2.2.2.1 s31.2.2.2.2.2.2.2.2) true)))
                                                                      (some false))
                                                                    (some false)))))
                                                                (s29.2.1, (s29.2.2.1, (s29.2.2.2.1, (1, (s29.2.2.2.2.2.2.1, (s29.2.2.2.2.2.2.2.1, (s29.2.2.2.2.2.2.2.2, (xget s29.2.2.2.2.2.2.1 (i2n 0) (false, false))))))))))))))
                                                            (s13.1, (r19.2.1, (r28.1, (r28.2, (1, (s13.2.2.2.2.2.2.2.2.1, (r17.1, (xget s13.2.2.2.2.2.2.2.2.1 (i2n 0) (false, false)))))))))))))))))))))))))))))
                            ((n2i (xlen r3.1.2)), (0, (x.2, (r3.1.1, (r3.1.2, (r3.2.1, (r3.2.2, (r4.1, (r5.1, r10.1))))))))))))))))))))))

noncomputable def F_l_FnExactCarriesOf (x : ((Int × (List Int)) × (Int × (List Int)))) : Option Bool :=
  (Option.bind (F_l_szRegister (x.1, 1048576)) fun r1 =>
    (cond (ilt r1 0)
      (some true)
      (Option.bind (F_l_szRegister (x.2, r1)) fun r3 =>
        (cond (ilt r3 0)
          (some true)
          (Option.bind (F_l_toRegister x.1) fun r5 =>
            (Option.bind (F_l_toRegister x.2) fun r6 =>
              (Option.bind (F_s_CarriesOf (r5, r6)) fun r7 =>
                (Option.bind (F_l_toRegister x.1) fun r8 =>
                  (Option.bind (F_l_toRegister x.2) fun r9 =>
                    (Option.bind (F_i_CarriesOf (r8, r9)) fun r10 =>
                      (Option.bind (F_l_eqInt64S (r10.1, r7.1)) fun r11 =>
                        (cond (bnot r11)
                          (some false)
                          (cond (ine r10.2 r7.2)
                            (some false)
                            (Option.bind (F_l_toRegister x.1) fun r14 =>
                              (Option.bind (F_l_eqRegister (r8, r14)) fun r15 =>
                                (cond (bnot r15)
                                  (some false)
                                  (Option.bind (F_l_toRegister x.2) fun r17 =>
                                    (Option.bind (F_l_eqRegister (r9, r17)) fun r18 =>
                                      (cond (bnot r18)
                                        (some false)
                                        (Option.bind (F_l_markRegister (r8, 1)) fun r20 =>
                                          (Option.bind (F_l_markRegister (r9, r20.1)) fun r21 =>
                                            (cond (ilt r21.1 0)
                                              (some false)
                                              (Option.bind (F_l_eqInt64S (r10.1, r7.1)) fun r23 =>
                                                (cond (bnot r23)
                                                  (some false)
                                                  (cond (ine r10.2 r7.2)
                                                    (some false)
                                                    (Option.bind (F_l_markInt64S (r10.1, 1)) fun r26 =>
                                                      (Option.bind (F_l_heldInt64S (r26.2, 1)) fun r27 =>
                                                        (cond (ilt r27 0)
                                                          (some false)
                                                          (cond (ine r27 r26.1)
                                                            (some false)
                                                            (Option.bind (F_l_toRegister x.1) fun r30 =>
                                                              (Option.bind (F_l_toRegister x.2) fun r31 =>
                                                                (Option.bind (F_i_CarriesOf (r30, r31)) fun r32 =>
                                                                  (Option.bind (F_l_eqInt64S (r32.1, r7.1)) fun r33 =>
                                                                    (cond (bnot r33)
                                                                      (some false)
                                                                      (cond (ine r32.2 r7.2)
                                                                        (some false)
                                                                        (Option.bind (F_l_heldInt64S (r26.2, 1)) fun r36 =>
                                                                          (cond (ilt r36 0)
                                                                            (some false)
                                                                            (cond (ine r36 r26.1)
                                                                              (some false)
                                                                              (some true)))))))))))))))))))))))))))))))))))))))

noncomputable def F_s_l10Places (x : ((Int × (List Int)) × ((Int × (List Int)) × ((Int × (List Int)) × Int)))) : Option Int :=
  (Option.bind (F_s_l00Min ((n2i (xlen x.2.2.1.2)), (iadd .i64 (isub .i64 (n2i (xlen x.2.1.2)) (n2i (xlen x.1.2))) 1))) fun r1 =>
    (some r1))

noncomputable def F_s_l10Ok (x : ((Int × (List Int)) × ((Int × (List Int)) × ((Int × (List Int)) × Int)))) : Option Bool :=
  (Option.bind (F_s_l02Ok x.1) fun r1 =>
    (cond (bnot r1)
      (some false)
      (Option.bind (F_s_l02Ok x.2.1) fun r3 =>
        (cond (bnot r3)
          (some false)
          (Option.bind (F_s_l02Ok x.2.2.1) fun r5 =>
            (cond (bnot r5)
              (some false)
              (cond (ine x.1.1 x.2.1.1)
                (some false)
                (cond (ine x.1.1 x.2.2.1.1)
                  (some false)
                  (Option.bind (F_s_l10Full (x.1.1, (n2i (xlen x.2.1.2)))) fun r9 =>
                    (cond (bnot r9)
                      (some false)
                      (Option.bind (F_s_l10Full (x.1.1, (n2i (xlen x.2.2.1.2)))) fun r11 =>
                        (cond (bnot r11)
                          (some false)
                          (cond (ile (n2i (xlen x.1.2)) (n2i (xlen x.2.1.2)))
                            (Option.bind (F_s_l10Places x) fun r14 =>
                              (Option.bind (F_s_l00In (x.2.2.2, (0, (isub .i64 r14 1)))) fun r15 =>
                                (some r15)))
                            (some false))))))))))))))

noncomputable def F_s_l07Size (x : Int) : Option Bool :=
  (Option.bind (F_s_l00In (x, (1, 16))) fun r1 =>
    (some r1))

noncomputable def F_s_l02New (x : (Int × (Int × Int))) : Option ((Int × (List Int)) × Int) :=
  (iter (σ := (Int × (Int × (Int × (Int × (Int × ((List Int) × (Int × (List Int))))))))) (fun s1 =>
    (cond (ilt s1.2.2.2.1 s1.2.1)
      (chk (okDiv s1.1)
      (chk (okRoom (xlen s1.2.2.2.2.2.2.2) (xlen ((irem s1.2.2.1 s1.1) :: ([] : (List Int)))) 8)
      (chk (okDiv s1.1)
      (some (.inl (s1.1, (s1.2.1, ((iquo .i64 s1.2.2.1 s1.1), ((iadd .i64 s1.2.2.2.1 1), (s1.2.2.2.2.1, (s1.2.2.2.2.2.1, (s1.2.2.2.2.2.2.1, (xapp s1.2.2.2.2.2.2.2 ((irem s1.2.2.1 s1.1) :: ([] : (List Int))))))))))))))))
      (some (.inr (s1.2.2.2.2.2.2, s1.2.2.1)))))
    (x.1, (x.2.1, (x.2.2, (0, (0, (([] : (List Int)), (x.1, ([] : (List Int))))))))))

noncomputable def F_s_l10New (x : (Int × (Int × (Int × Int)))) : Option ((Int × (List Int)) × ((Int × (List Int)) × ((Int × (List Int)) × Int))) :=
  (Option.bind (F_s_l02New (x.1, (x.2.1, 0))) fun r1 =>
    (Option.bind (F_s_l02New (x.1, (x.2.2.1, 0))) fun r2 =>
      (Option.bind (F_s_l02New (x.1, (x.2.2.2, 0))) fun r3 =>
        (some (r1.1, (r2.1, (r3.1, 0)))))))

noncomputable def F_s_NewMachine (x : (Int × (Int × (Int × Int)))) : Option (((Int × (List Int)) × ((Int × (List Int)) × ((Int × (List Int)) × Int))) × Int) :=
  (Option.bind (F_s_l02Base x.1) fun r1 =>
    (cond (bnot r1)
      (some (((0, ([] : (List Int))), ((0, ([] : (List Int))), ((0, ([] : (List Int))), 0))), 2))
      (Option.bind (F_s_l07Size x.2.1) fun r3 =>
        (cond (bnot r3)
          (some (((0, ([] : (List Int))), ((0, ([] : (List Int))), ((0, ([] : (List Int))), 0))), 2))
          (Option.bind (F_s_l07Size x.2.2.1) fun r5 =>
            (cond (bnot r5)
              (some (((0, ([] : (List Int))), ((0, ([] : (List Int))), ((0, ([] : (List Int))), 0))), 2))
              (Option.bind (F_s_l07Size x.2.2.2) fun r7 =>
                (cond (bnot r7)
                  (some (((0, ([] : (List Int))), ((0, ([] : (List Int))), ((0, ([] : (List Int))), 0))), 2))
                  (Option.bind (F_s_l10New (x.1, (x.2.1, x.2.2))) fun r9 =>
                    (Option.bind (F_s_l10Ok (r9.1, (r9.2.1, (r9.2.2.1, r9.2.2.2)))) fun r10 =>
                      (cond (bnot r10)
                        (some (((0, ([] : (List Int))), ((0, ([] : (List Int))), ((0, ([] : (List Int))), 0))), 2))
                        (some ((r9.1, (r9.2.1, (r9.2.2.1, r9.2.2.2))), 0)))))))))))))

noncomputable def F_s_l14Size (x : (Int × (Int × (Int × Int)))) : Option Int :=
  (Option.bind (F_s_NewMachine (x.1, (x.2.1, x.2.2))) fun r1 =>
    (cond (ine r1.2 0)
      (some r1.2)
      (Option.bind (F_s_l10Power (x.1, x.2.1)) fun r3 =>
        (Option.bind (F_s_l10Power (x.1, x.2.2.1)) fun r4 =>
          (chk (okDiv r4)
          (cond (igt r3 (iquo .i64 256 r4))
            (some 5)
            (some 0)))))))

noncomputable def F_s_InputsOf (x : (Int × (Int × Int))) : Option (Int × Int) :=
  (Option.bind (F_s_l14Size (x.1, (x.2.1, (x.2.2, 1)))) fun r1 =>
    (cond (ine r1 0)
      (some (0, r1))
      (Option.bind (F_s_l10Power (x.1, x.2.1)) fun r3 =>
        (Option.bind (F_s_l10Power (x.1, x.2.2)) fun r4 =>
          (some ((imul .i64 r3 r4), 0))))))

noncomputable def F_i_Register_values (x : (Int × (List Int))) : Option Int :=
  (Option.bind (F_i_Register_width x) fun r1 =>
    (Option.bind (F_i_power (x.1, r1)) fun r2 =>
      (some r2)))

noncomputable def F_i_Machine_places (x : ((Int × (List Int)) × ((Int × (List Int)) × ((Int × (List Int)) × Int)))) : Option Int :=
  (Option.bind (F_i_Register_width x.2.1) fun r1 =>
    (Option.bind (F_i_Register_width x.1) fun r2 =>
      (Option.bind (F_i_Register_width x.2.2.1) fun r3 =>
        (some (imin (iadd .i64 (isub .i64 r1 r2) 1) r3)))))

noncomputable def F_i_ValidMachine (x : ((Int × (List Int)) × ((Int × (List Int)) × ((Int × (List Int)) × Int)))) : Option Bool :=
  (Option.bind (F_i_ValidRegister x.1) fun r1 =>
    (cond (bnot r1)
      (some false)
      (Option.bind (F_i_ValidRegister x.2.1) fun r3 =>
        (cond (bnot r3)
          (some false)
          (Option.bind (F_i_ValidRegister x.2.2.1) fun r5 =>
            (cond (bnot r5)
              (some false)
              (cond (ine x.1.1 x.2.1.1)
                (some false)
                (cond (ine x.2.2.1.1 x.2.1.1)
                  (some false)
                  (Option.bind (F_i_Register_values x.2.1) fun r9 =>
                    (cond (ieq r9 0)
                      (some false)
                      (Option.bind (F_i_Register_values x.2.2.1) fun r11 =>
                        (cond (ieq r11 0)
                          (some false)
                          (Option.bind (F_i_Register_width x.1) fun r13 =>
                            (Option.bind (F_i_Register_width x.2.1) fun r14 =>
                              (cond (ile r13 r14)
                                (Option.bind (F_i_Machine_places (x.1, (x.2.1, (x.2.2.1, x.2.2.2)))) fun r16 =>
                                  (Option.bind (F_i_between (x.2.2.2, (0, (isub .i64 r16 1)))) fun r17 =>
                                    (some r17)))
                                (some false))))))))))))))))

noncomputable def F_i_registerOf (x : (Int × (Int × Int))) : Option ((Int × (List Int)) × Bool) :=
  (iter (σ := (Int × (Int × (Int × (Int × (Int × ((List Int) × (Int × (List Int))))))))) (fun s1 =>
    (cond (ilt s1.2.2.2.1 s1.2.2.1)
      (chk (okDiv s1.1)
      (chk (okRoom (xlen s1.2.2.2.2.2.2.2) (xlen ((irem s1.2.1 s1.1) :: ([] : (List Int)))) 8)
      (chk (okDiv s1.1)
      (some (.inl (s1.1, ((iquo .i64 s1.2.1 s1.1), (s1.2.2.1, ((iadd .i64 s1.2.2.2.1 1), (s1.2.2.2.2.1, (s1.2.2.2.2.2.1, (s1.2.2.2.2.2.2.1, (xapp s1.2.2.2.2.2.2.2 ((irem s1.2.1 s1.1) :: ([] : (List Int))))))))))))))))
      (some (.inr (s1.2.2.2.2.2.2, (ieq s1.2.1 0))))))
    (x.1, (x.2.2, (x.2.1, (0, (0, (([] : (List Int)), (x.1, ([] : (List Int))))))))))

noncomputable def F_i_NewMachine (x : (Int × (Int × (Int × Int)))) : Option (((Int × (List Int)) × ((Int × (List Int)) × ((Int × (List Int)) × Int))) × Int) :=
  (Option.bind (F_i_isBase x.1) fun r1 =>
    (cond (bnot r1)
      (some (((0, ([] : (List Int))), ((0, ([] : (List Int))), ((0, ([] : (List Int))), 0))), 2))
      (Option.bind (F_i_isRegisterWidth x.2.1) fun r3 =>
        (cond (bnot r3)
          (some (((0, ([] : (List Int))), ((0, ([] : (List Int))), ((0, ([] : (List Int))), 0))), 2))
          (Option.bind (F_i_isRegisterWidth x.2.2.1) fun r5 =>
            (cond (bnot r5)
              (some (((0, ([] : (List Int))), ((0, ([] : (List Int))), ((0, ([] : (List Int))), 0))), 2))
              (Option.bind (F_i_isRegisterWidth x.2.2.2) fun r7 =>
                (cond (bnot r7)
                  (some (((0, ([] : (List Int))), ((0, ([] : (List Int))), ((0, ([] : (List Int))), 0))), 2))
                  (Option.bind (F_i_registerOf (x.1, (x.2.1, 0))) fun r9 =>
                    (Option.bind (F_i_registerOf (x.1, (x.2.2.1, 0))) fun r10 =>
                      (Option.bind (F_i_registerOf (x.1, (x.2.2.2, 0))) fun r11 =>
                        (Option.bind (F_i_ValidMachine (r9.1, (r10.1, (r11.1, 0)))) fun r12 =>
                          (cond (bnot r12)
                            (some (((0, ([] : (List Int))), ((0, ([] : (List Int))), ((0, ([] : (List Int))), 0))), 2))
                            (some ((r9.1, (r10.1, (r11.1, 0))), 0)))))))))))))))

noncomputable def F_i_inputsOf (x : (Int × (Int × (Int × Int)))) : Option ((((Int × (List Int)) × ((Int × (List Int)) × ((Int × (List Int)) × Int))) × Int) × Int) :=
  (Option.bind (F_i_NewMachine (x.1, (x.2.1, x.2.2))) fun r1 =>
    (cond (ine r1.2 0)
      (some ((((0, ([] : (List Int))), ((0, ([] : (List Int))), ((0, ([] : (List Int))), 0))), 0), r1.2))
      (Option.bind (F_i_Register_values r1.1.1) fun r3 =>
        (Option.bind (F_i_Register_values r1.1.2.1) fun r4 =>
          (cond (igt r3 256)
            (some ((((0, ([] : (List Int))), ((0, ([] : (List Int))), ((0, ([] : (List Int))), 0))), 0), 5))
            (cond (igt r4 256)
              (some ((((0, ([] : (List Int))), ((0, ([] : (List Int))), ((0, ([] : (List Int))), 0))), 0), 5))
              (cond (igt (imul .i64 r3 r4) 256)
                (some ((((0, ([] : (List Int))), ((0, ([] : (List Int))), ((0, ([] : (List Int))), 0))), 0), 5))
                (some (((r1.1.1, (r1.1.2.1, (r1.1.2.2.1, r1.1.2.2.2))), (imul .i64 r3 r4)), 0)))))))))

noncomputable def F_i_InputsOf (x : (Int × (Int × Int))) : Option (Int × Int) :=
  (Option.bind (F_i_inputsOf (x.1, (x.2.1, (x.2.2, 1)))) fun r1 =>
    (cond (ine r1.2 0)
      (some (0, r1.2))
      (some (r1.1.2, 0))))

noncomputable def F_l_FnExactInputsOf (x : (Int × (Int × Int))) : Option Bool :=
  (Option.bind (F_s_InputsOf (x.1, x.2)) fun r1 =>
    (Option.bind (F_i_InputsOf (x.1, x.2)) fun r2 =>
      (cond (ine r2.1 r1.1)
        (some false)
        (cond (ine r2.2 r1.2)
          (some false)
          (some true)))))

noncomputable def F_i_WorstRipple (x : (Int × Int)) : Option ((Int × (List Int)) × ((Int × (List Int)) × Int)) :=
  (Option.bind (F_i_isBase x.1) fun r1 =>
    (cond (bnot r1)
      (some ((0, ([] : (List Int))), ((0, ([] : (List Int))), 2)))
      (Option.bind (F_i_isRegisterWidth x.2) fun r3 =>
        (cond (bnot r3)
          (some ((0, ([] : (List Int))), ((0, ([] : (List Int))), 2)))
          (iter (σ := (Int × (Int × (Int × (Int × (Int × ((List Int) × (Int × ((List Int) × (Int × (List Int))))))))))) (fun s5 =>
            (cond (ilt s5.2.2.2.1 s5.2.2.1)
              (chk (okRoom (xlen s5.2.2.2.2.2.2.2.2.2) (xlen ((isub .i64 s5.1 1) :: ([] : (List Int)))) 8)
              (some (.inl (s5.1, (s5.2.1, (s5.2.2.1, ((iadd .i64 s5.2.2.2.1 1), (s5.2.2.2.2.1, (s5.2.2.2.2.2.1, (s5.2.2.2.2.2.2.1, (s5.2.2.2.2.2.2.2.1, (s5.2.2.2.2.2.2.2.2.1, (xapp s5.2.2.2.2.2.2.2.2.2 ((isub .i64 s5.1 1) :: ([] : (List Int))))))))))))))))
              (Option.map Sum.inr
                (Option.bind (F_i_ValidRegister s5.2.2.2.2.2.2.2.2) fun r7 =>
                (cond (bnot r7)
                  (some ((0, ([] : (List Int))), ((0, ([] : (List Int))), 5)))
                  (Option.bind (F_i_registerOf (s5.1, (s5.2.1, 1))) fun r9 =>
                    (some (s5.2.2.2.2.2.2.2.2, (r9.1, 0)))))))))
            (x.1, (x.2, (x.2, (0, (0, (([] : (List Int)), (0, (([] : (List Int)), (x.1, ([] : (List Int))))))))))))))))

noncomputable def F_i_turned (x : ((Int × (List Int)) × (Int × (List Int)))) : Option ((Int × (List Int)) × (List Bool)) :=
  (iter (σ := (Int × (Int × (Int × ((List Int) × (Int × ((List Int) × (Int × ((List Int) × (Int × ((List Int) × (List Bool)))))))))))) (fun s1 =>
    (cond (ilt s1.2.1 s1.1)
      (chk (okIx s1.2.1 (xlen s1.2.2.2.1))
      (chk (okIx s1.2.1 (xlen s1.2.2.2.2.2.1))
      (chk (okDiv s1.2.2.1)
      (chk (okRoom (xlen s1.2.2.2.2.2.2.2.2.2.1) (xlen ((irem (iadd .i64 (xget s1.2.2.2.1 (i2n s1.2.1) 0) (xget s1.2.2.2.2.2.1 (i2n s1.2.1) 0)) s1.2.2.1) :: ([] : (List Int)))) 8)
      (chk (okRoom (xlen s1.2.2.2.2.2.2.2.2.2.2) (xlen ((ige (iadd .i64 (xget s1.2.2.2.1 (i2n s1.2.1) 0) (xget s1.2.2.2.2.2.1 (i2n s1.2.1) 0)) s1.2.2.1) :: ([] : (List Bool)))) 1)
      (some (.inl (s1.1, ((iadd .i64 s1.2.1 1), (s1.2.2.1, (s1.2.2.2.1, (s1.2.2.2.2.1, (s1.2.2.2.2.2.1, (s1.2.2.2.2.2.2.1, (s1.2.2.2.2.2.2.2.1, (s1.2.2.2.2.2.2.2.2.1, ((xapp s1.2.2.2.2.2.2.2.2.2.1 ((irem (iadd .i64 (xget s1.2.2.2.1 (i2n s1.2.1) 0) (xget s1.2.2.2.2.2.1 (i2n s1.2.1) 0)) s1.2.2.1) :: ([] : (List Int)))), (xapp s1.2.2.2.2.2.2.2.2.2.2 ((ige (iadd .i64 (xget s1.2.2.2.1 (i2n s1.2.1) 0) (xget s1.2.2.2.2.2.1 (i2n s1.2.1) 0)) s1.2.2.1) :: ([] : (List Bool)))))))))))))))))))))
      (some (.inr ((s1.2.2.2.2.2.2.2.2.1, s1.2.2.2.2.2.2.2.2.2.1), s1.2.2.2.2.2.2.2.2.2.2)))))
    ((n2i (xlen x.1.2)), (0, (x.1.1, (x.1.2, (x.2.1, (x.2.2, (0, (([] : (List Int)), (x.1.1, (([] : (List Int)), ([] : (List Bool)))))))))))))

noncomputable def F_i_pushed (x : ((Int × (List Int)) × (List Bool))) : Option ((Int × (List Int)) × (List Bool)) :=
  (Option.bind (F_i_copyNumbers x.1.2) fun r1 =>
    (chk (okRoom (xlen ([] : (List Bool))) (xlen x.2) 1)
    (iter (σ := (Int × (Int × (Int × ((List Int) × (Int × ((List Int) × (Int × ((List Int) × (List Bool)))))))))) (fun s2 =>
      (cond (ilt s2.2.1 s2.1)
        (chk (okIx s2.2.1 (xlen s2.2.2.2.2.2.2.2.2))
        (cond (bnot (xget s2.2.2.2.2.2.2.2.2 (i2n s2.2.1) false))
          (some (.inl (s2.1, ((iadd .i64 s2.2.1 1), (s2.2.2.1, (s2.2.2.2.1, (s2.2.2.2.2.1, (s2.2.2.2.2.2.1, (s2.2.2.2.2.2.2.1, s2.2.2.2.2.2.2.2)))))))))
          (cond (ieq (iadd .i64 s2.2.1 1) (n2i (xlen s2.2.2.2.2.2.2.2.2)))
            (some (.inl (s2.1, ((iadd .i64 s2.2.1 1), (s2.2.2.1, (s2.2.2.2.1, (s2.2.2.2.2.1, (s2.2.2.2.2.2.1, (s2.2.2.2.2.2.2.1, s2.2.2.2.2.2.2.2)))))))))
            (chk (okIx (iadd .i64 s2.2.1 1) (xlen s2.2.2.2.2.2.2.2.1))
            (chk (okIx (iadd .i64 s2.2.1 1) (xlen s2.2.2.2.2.2.2.2.1))
            (chk (okIx (iadd .i64 s2.2.1 1) (xlen (xset s2.2.2.2.2.2.2.2.1 (i2n (iadd .i64 s2.2.1 1)) (iadd .i64 (xget s2.2.2.2.2.2.2.2.1 (i2n (iadd .i64 s2.2.1 1)) 0) 1))))
            (cond (ieq (xget (xset s2.2.2.2.2.2.2.2.1 (i2n (iadd .i64 s2.2.1 1)) (iadd .i64 (xget s2.2.2.2.2.2.2.2.1 (i2n (iadd .i64 s2.2.1 1)) 0) 1)) (i2n (iadd .i64 s2.2.1 1)) 0) s2.2.2.1)
              (chk (okIx (iadd .i64 s2.2.1 1) (xlen (xset s2.2.2.2.2.2.2.2.1 (i2n (iadd .i64 s2.2.1 1)) (iadd .i64 (xget s2.2.2.2.2.2.2.2.1 (i2n (iadd .i64 s2.2.1 1)) 0) 1))))
              (chk (okIx (iadd .i64 s2.2.1 1) (xlen s2.2.2.2.2.2.2.2.2))
              (some (.inl (s2.1, ((iadd .i64 s2.2.1 1), (s2.2.2.1, (s2.2.2.2.1, (s2.2.2.2.2.1, (s2.2.2.2.2.2.1, (s2.2.2.2.2.2.2.1, ((xset (xset s2.2.2.2.2.2.2.2.1 (i2n (iadd .i64 s2.2.1 1)) (iadd .i64 (xget s2.2.2.2.2.2.2.2.1 (i2n (iadd .i64 s2.2.1 1)) 0) 1)) (i2n (iadd .i64 s2.2.1 1)) 0), (xset s2.2.2.2.2.2.2.2.2 (i2n (iadd .i64 s2.2.1 1)) true)))))))))))))
              (some (.inl (s2.1, ((iadd .i64 s2.2.1 1), (s2.2.2.1, (s2.2.2.2.1, (s2.2.2.2.2.1, (s2.2.2.2.2.2.1, (s2.2.2.2.2.2.2.1, ((xset s2.2.2.2.2.2.2.2.1 (i2n (iadd .i64 s2.2.1 1)) (iadd .i64 (xget s2.2.2.2.2.2.2.2.1 (i2n (iadd .i64 s2.2.1 1)) 0) 1)), s2.2.2.2.2.2.2.2.2)))))))))))))))))
        (some (.inr ((s2.2.2.2.2.2.2.1, s2.2.2.2.2.2.2.2.1), s2.2.2.2.2.2.2.2.2)))))
      ((n2i (xlen (xapp ([] : (List Bool)) x.2))), (0, (x.1.1, (x.1.2, (0, (([] : (List Int)), (x.1.1, (r1, (xapp ([] : (List Bool)) x.2))))))))))))

noncomputable def F_i_RippleOf (x : ((Int × (List Int)) × (Int × (List Int)))) : Option (Int × Int) :=
  (Option.bind (F_i_pairCode (x.1, x.2)) fun r1 =>
    (cond (ine r1 0)
      (some (0, r1))
      (Option.bind (F_i_turned (x.1, x.2)) fun r3 =>
        (Option.bind (F_i_pushed (r3.1, r3.2)) fun r4 =>
          (iter (σ := (Int × (Int × (Int × (Int × ((List Bool) × (List Bool))))))) (fun s5 =>
            (cond (ilt s5.2.2.2.1 s5.2.2.1)
              (chk (okIx s5.2.2.2.1 (xlen s5.2.2.2.2.1))
              (cond (xget s5.2.2.2.2.1 (i2n s5.2.2.2.1) false)
                (some (.inl (1, ((imax s5.2.1 1), (s5.2.2.1, ((iadd .i64 s5.2.2.2.1 1), s5.2.2.2.2))))))
                (chk (okIx s5.2.2.2.1 (xlen s5.2.2.2.2.2))
                (cond (xget s5.2.2.2.2.2 (i2n s5.2.2.2.1) false)
                  (some (.inl ((iadd .i64 s5.1 1), ((imax s5.2.1 (iadd .i64 s5.1 1)), (s5.2.2.1, ((iadd .i64 s5.2.2.2.1 1), s5.2.2.2.2))))))
                  (some (.inl (0, ((imax s5.2.1 0), (s5.2.2.1, ((iadd .i64 s5.2.2.2.1 1), s5.2.2.2.2))))))))))
              (some (.inr (s5.2.1, 0)))))
            (0, (0, ((n2i (xlen r4.2)), (0, (r3.2, r4.2))))))))))

noncomputable def F_s_l02Add (x : ((Int × (List Int)) × (Int × (List Int)))) : Option ((Int × (List Int)) × Int) :=
  (Option.bind (F_s_l02Carries x) fun r1 =>
    (iter (σ := (Int × ((List (Int × (List Int))) × ((List (Int × (List Int))) × (Int × ((List Int) × ((List Int) × (Int × (List Int))))))))) (fun s2 =>
      (cond (ilt s2.1 (n2i (xlen (xget s2.2.1 0 (0, ([] : (List Int)))).2)))
        (chk (okIx s2.1 (xlen (xget s2.2.1 0 (0, ([] : (List Int)))).2))
        (chk (okIx s2.1 (xlen (xget s2.2.2.1 0 (0, ([] : (List Int)))).2))
        (chk (okIx s2.1 (xlen s2.2.2.2.2.2.1))
        (chk (okDiv (xget s2.2.1 0 (0, ([] : (List Int)))).1)
        (chk (okRoom (xlen s2.2.2.2.2.2.2.2) (xlen ((irem (iadd .i64 (iadd .i64 (xget (xget s2.2.1 0 (0, ([] : (List Int)))).2 (i2n s2.1) 0) (xget (xget s2.2.2.1 0 (0, ([] : (List Int)))).2 (i2n s2.1) 0)) (xget s2.2.2.2.2.2.1 (i2n s2.1) 0)) (xget s2.2.1 0 (0, ([] : (List Int)))).1) :: ([] : (List Int)))) 8)
        (some (.inl ((iadd .i64 s2.1 1), (s2.2.1, (s2.2.2.1, (s2.2.2.2.1, (s2.2.2.2.2.1, (s2.2.2.2.2.2.1, (s2.2.2.2.2.2.2.1, (xapp s2.2.2.2.2.2.2.2 ((irem (iadd .i64 (iadd .i64 (xget (xget s2.2.1 0 (0, ([] : (List Int)))).2 (i2n s2.1) 0) (xget (xget s2.2.2.1 0 (0, ([] : (List Int)))).2 (i2n s2.1) 0)) (xget s2.2.2.2.2.2.1 (i2n s2.1) 0)) (xget s2.2.1 0 (0, ([] : (List Int)))).1) :: ([] : (List Int))))))))))))))))))
        (Option.map Sum.inr
          (chk (okIx (n2i (xlen (xget s2.2.1 0 (0, ([] : (List Int)))).2)) (xlen s2.2.2.2.2.2.1))
        (some (s2.2.2.2.2.2.2, (xget s2.2.2.2.2.2.1 (i2n (n2i (xlen (xget s2.2.1 0 (0, ([] : (List Int)))).2))) 0)))))))
      (0, ((x.1 :: ([] : (List (Int × (List Int))))), ((x.2 :: ([] : (List (Int × (List Int))))), (0, (([] : (List Int)), (r1, (x.1.1, ([] : (List Int)))))))))))

noncomputable def F_s_AddRegisters (x : ((Int × (List Int)) × (Int × (List Int)))) : Option ((Int × (List Int)) × (Int × Int)) :=
  (Option.bind (F_s_l02Two (x.1, x.2)) fun r1 =>
    (cond (ine r1 0)
      (some ((0, ([] : (List Int))), (0, r1)))
      (Option.bind (F_s_l02Add (x.1, x.2)) fun r3 =>
        (Option.bind (F_s_l02Ok r3.1) fun r4 =>
          (cond (bnot r4)
            (some ((0, ([] : (List Int))), (0, 5)))
            (some (r3.1, (r3.2, 0))))))))

noncomputable def F_s_ValueOf (x : (Int × (List Int))) : Option (Int × Int) :=
  (Option.bind (F_s_l02Ok x) fun r1 =>
    (cond (bnot r1)
      (some (0, 1))
      (Option.bind (F_s_l02Value x) fun r3 =>
        (some (r3, 0)))))

noncomputable def F_l_FnWorst (x : (List Int)) : Option Bool :=
  (Option.bind (F_l_a2Long (x, ([] : (List Int)))) fun r1 =>
    (cond r1
      (some true)
      (Option.bind (F_l_a2At (x, (0, 9))) fun r3 =>
        (Option.bind (F_l_a2At (x, (1, 9))) fun r4 =>
          (Option.bind (F_i_WorstRipple ((iadd .i64 2 r3), (iadd .i64 1 r4))) fun r5 =>
            (cond (ine r5.2.2 0)
              (some false)
              (Option.bind (F_s_ValidRegister r5.1) fun r7 =>
                (cond (bnot r7)
                  (some false)
                  (Option.bind (F_s_ValidRegister r5.2.1) fun r9 =>
                    (cond (bnot r9)
                      (some false)
                      (Option.bind (F_i_RippleOf (r5.1, r5.2.1)) fun r11 =>
                        (Option.bind (F_s_AddRegisters (r5.1, r5.2.1)) fun r12 =>
                          (Option.bind (F_s_ValueOf r12.1) fun r13 =>
                            (cond (ieq r11.2 0)
                              (cond (ieq r11.1 (iadd .i64 1 r4))
                                (cond (ieq r12.2.2 0)
                                  (cond (ieq r12.2.1 1)
                                    (cond (ieq r13.2 0)
                                      (some (ieq r13.1 0))
                                      (some false))
                                    (some false))
                                  (some false))
                                (some false))
                              (some false)))))))))))))))

noncomputable def F_s_l16Prepare (x : (Int × (List Int))) : Option (Int × (List Int)) :=
  (Option.bind (F_s_l16Own x) fun r1 =>
    (Option.bind (F_s_l16Own x) fun r2 =>
      (iter (σ := (Int × (Int × ((List Int) × (Int × ((List Int) × (Int × (List Int)))))))) (fun s3 =>
        (cond (ilt s3.1 (n2i (xlen s3.2.2.2.2.1)))
          (cond (igt s3.1 0)
            (chk (okDiv 2)
            (cond (ieq (irem s3.1 2) 0)
              (Option.bind (F_s_l16Back s3.2.2.2.2.2) fun r7 =>
                (chk (okIx s3.1 (xlen r7.2))
                (chk (okIx s3.1 (xlen s3.2.2.2.2.1))
                (some (.inl ((iadd .i64 s3.1 1), (s3.2.1, (s3.2.2.1, (s3.2.2.2.1, ((xset s3.2.2.2.2.1 (i2n s3.1) (xget r7.2 (i2n s3.1) 0)), r7))))))))))
              (chk (okIx s3.1 (xlen s3.2.2.2.2.2.2))
              (chk (okIx s3.1 (xlen s3.2.2.2.2.1))
              (some (.inl ((iadd .i64 s3.1 1), (s3.2.1, (s3.2.2.1, (s3.2.2.2.1, ((xset s3.2.2.2.2.1 (i2n s3.1) (xget s3.2.2.2.2.2.2 (i2n s3.1) 0)), s3.2.2.2.2.2)))))))))))
            (chk (okIx s3.1 (xlen s3.2.2.2.2.2.2))
            (chk (okIx s3.1 (xlen s3.2.2.2.2.1))
            (some (.inl ((iadd .i64 s3.1 1), (s3.2.1, (s3.2.2.1, (s3.2.2.2.1, ((xset s3.2.2.2.2.1 (i2n s3.1) (xget s3.2.2.2.2.2.2 (i2n s3.1) 0)), s3.2.2.2.2.2))))))))))
          (some (.inr (s3.2.2.2.1, s3.2.2.2.2.1)))))
        (0, (0, (([] : (List Int)), (r1.1, (r1.2, r2))))))))

noncomputable def F_s_PrepareHalves (x : (Int × (List Int))) : Option ((Int × (List Int)) × Int) :=
  (Option.bind (F_s_l16Ok x) fun r1 =>
    (cond (bnot r1)
      (some ((0, ([] : (List Int))), 1))
      (Option.bind (F_s_l16Prepare x) fun r3 =>
        (some (r3, 0)))))

noncomputable def F_i_Engine_prepared (x : (Int × (List Int))) : Option (Int × (List Int)) :=
  (Option.bind (F_i_Engine_copied x) fun r1 =>
    (iter (σ := (Int × (Int × (Int × ((List Int) × (Int × ((List Int) × (Int × (List Int))))))))) (fun s2 =>
      (cond (ilt s2.2.1 s2.1)
        (cond (igt s2.2.1 0)
          (chk (okDiv 2)
          (cond (ieq (irem s2.2.1 2) 0)
            (Option.bind (F_i_Engine_back s2.2.2.2.2.2.2) fun r6 =>
              (chk (okIx s2.2.1 (xlen r6.2))
              (chk (okIx s2.2.1 (xlen s2.2.2.2.2.2.1))
              (some (.inl (s2.1, ((iadd .i64 s2.2.1 1), (s2.2.2.1, (s2.2.2.2.1, (s2.2.2.2.2.1, ((xset s2.2.2.2.2.2.1 (i2n s2.2.1) (xget r6.2 (i2n s2.2.1) 0)), r6)))))))))))
            (chk (okIx s2.2.1 (xlen s2.2.2.2.2.2.2.2))
            (chk (okIx s2.2.1 (xlen s2.2.2.2.2.2.1))
            (some (.inl (s2.1, ((iadd .i64 s2.2.1 1), (s2.2.2.1, (s2.2.2.2.1, (s2.2.2.2.2.1, ((xset s2.2.2.2.2.2.1 (i2n s2.2.1) (xget s2.2.2.2.2.2.2.2 (i2n s2.2.1) 0)), s2.2.2.2.2.2.2))))))))))))
          (chk (okIx s2.2.1 (xlen s2.2.2.2.2.2.2.2))
          (chk (okIx s2.2.1 (xlen s2.2.2.2.2.2.1))
          (some (.inl (s2.1, ((iadd .i64 s2.2.1 1), (s2.2.2.1, (s2.2.2.2.1, (s2.2.2.2.2.1, ((xset s2.2.2.2.2.2.1 (i2n s2.2.1) (xget s2.2.2.2.2.2.2.2 (i2n s2.2.1) 0)), s2.2.2.2.2.2.2)))))))))))
        (some (.inr (s2.2.2.2.2.1, s2.2.2.2.2.2.1)))))
      ((n2i (xlen r1.2)), (0, (0, (([] : (List Int)), (r1.1, (r1.2, x))))))))

noncomputable def F_i_PrepareHalves (x : (Int × (List Int))) : Option ((Int × (List Int)) × Int) :=
  (Option.bind (F_i_ValidEngine x) fun r1 =>
    (cond (bnot r1)
      (some ((0, ([] : (List Int))), 1))
      (Option.bind (F_i_Engine_prepared x) fun r3 =>
        (some (r3, 0)))))

noncomputable def F_l_FnExactPrepareHalves (x : (Int × (List Int))) : Option Bool :=
  (Option.bind (F_l_szEngine (x, 1048576)) fun r1 =>
    (cond (ilt r1 0)
      (some true)
      (Option.bind (F_l_toEngine x) fun r3 =>
        (Option.bind (F_s_PrepareHalves r3) fun r4 =>
          (Option.bind (F_l_toEngine x) fun r5 =>
            (Option.bind (F_i_PrepareHalves r5) fun r6 =>
              (Option.bind (F_l_eqEngine (r6.1, r4.1)) fun r7 =>
                (cond (bnot r7)
                  (some false)
                  (cond (ine r6.2 r4.2)
                    (some false)
                    (Option.bind (F_l_toEngine x) fun r10 =>
                      (Option.bind (F_l_eqEngine (r5, r10)) fun r11 =>
                        (cond (bnot r11)
                          (some false)
                          (Option.bind (F_l_markEngine (r5, 1)) fun r13 =>
                            (cond (ilt r13.1 0)
                              (some false)
                              (Option.bind (F_l_eqEngine (r6.1, r4.1)) fun r15 =>
                                (cond (bnot r15)
                                  (some false)
                                  (cond (ine r6.2 r4.2)
                                    (some false)
                                    (Option.bind (F_l_markEngine (r6.1, 1)) fun r18 =>
                                      (Option.bind (F_l_heldEngine ((r6.1.1, r18.2.2), 1)) fun r19 =>
                                        (cond (ilt r19 0)
                                          (some false)
                                          (cond (ine r19 r18.1)
                                            (some false)
                                            (Option.bind (F_l_toEngine x) fun r22 =>
                                              (Option.bind (F_i_PrepareHalves r22) fun r23 =>
                                                (Option.bind (F_l_eqEngine (r23.1, r4.1)) fun r24 =>
                                                  (cond (bnot r24)
                                                    (some false)
                                                    (cond (ine r23.2 r4.2)
                                                      (some false)
                                                      (Option.bind (F_l_heldEngine ((r6.1.1, r18.2.2), 1)) fun r27 =>
                                                        (cond (ilt r27 0)
                                                          (some false)
                                                          (cond (ine r27 r18.1)
                                                            (some false)
                                                            (some true))))))))))))))))))))))))))))))

noncomputable def F_l_szMachine (x : (((Int × (List Int)) × ((Int × (List Int)) × ((Int × (List Int)) × Int))) × Int)) : Option Int :=
  (Option.bind (F_l_szRegister (x.1.1, x.2)) fun r1 =>
    (cond (ilt r1 0)
      (some (-1))
      (Option.bind (F_l_szRegister (x.1.2.1, r1)) fun r3 =>
        (cond (ilt r3 0)
          (some (-1))
          (Option.bind (F_l_szRegister (x.1.2.2.1, r3)) fun r5 =>
            (cond (ilt r5 0)
              (some (-1))
              (some r5)))))))

noncomputable def F_s_ValidMachine (x : ((Int × (List Int)) × ((Int × (List Int)) × ((Int × (List Int)) × Int)))) : Option Bool :=
  (Option.bind (F_s_l10Ok (x.1, (x.2.1, (x.2.2.1, x.2.2.2)))) fun r1 =>
    (some r1))

noncomputable def F_l_toMachine (x : ((Int × (List Int)) × ((Int × (List Int)) × ((Int × (List Int)) × Int)))) : Option ((Int × (List Int)) × ((Int × (List Int)) × ((Int × (List Int)) × Int))) :=
  (Option.bind (F_l_toRegister x.1) fun r1 =>
    (Option.bind (F_l_toRegister x.2.1) fun r2 =>
      (Option.bind (F_l_toRegister x.2.2.1) fun r3 =>
        (some (r1, (r2, (r3, x.2.2.2)))))))

noncomputable def F_l_eqMachine (x : (((Int × (List Int)) × ((Int × (List Int)) × ((Int × (List Int)) × Int))) × ((Int × (List Int)) × ((Int × (List Int)) × ((Int × (List Int)) × Int))))) : Option Bool :=
  (Option.bind (F_l_eqRegister (x.1.1, x.2.1)) fun r1 =>
    (cond (bnot r1)
      (some false)
      (Option.bind (F_l_eqRegister (x.1.2.1, x.2.2.1)) fun r3 =>
        (cond (bnot r3)
          (some false)
          (Option.bind (F_l_eqRegister (x.1.2.2.1, x.2.2.2.1)) fun r5 =>
            (cond (bnot r5)
              (some false)
              (cond (ine x.1.2.2.2 x.2.2.2.2)
                (some false)
                (some true))))))))

noncomputable def F_l_FnExactValidMachine (x : ((Int × (List Int)) × ((Int × (List Int)) × ((Int × (List Int)) × Int)))) : Option Bool :=
  (Option.bind (F_l_szMachine ((x.1, (x.2.1, (x.2.2.1, x.2.2.2))), 1048576)) fun r1 =>
    (cond (ilt r1 0)
      (some true)
      (Option.bind (F_l_toMachine (x.1, (x.2.1, (x.2.2.1, x.2.2.2)))) fun r3 =>
        (Option.bind (F_s_ValidMachine (r3.1, (r3.2.1, (r3.2.2.1, r3.2.2.2)))) fun r4 =>
          (Option.bind (F_l_toMachine (x.1, (x.2.1, (x.2.2.1, x.2.2.2)))) fun r5 =>
            (Option.bind (F_i_ValidMachine (r5.1, (r5.2.1, (r5.2.2.1, r5.2.2.2)))) fun r6 =>
              (cond (bnev r6 r4)
                (some false)
                (Option.bind (F_l_toMachine (x.1, (x.2.1, (x.2.2.1, x.2.2.2)))) fun r8 =>
                  (Option.bind (F_l_eqMachine ((r5.1, (r5.2.1, (r5.2.2.1, r5.2.2.2))), (r8.1, (r8.2.1, (r8.2.2.1, r8.2.2.2))))) fun r9 =>
                    (cond (bnot r9)
                      (some false)
                      (some true)))))))))))

end Go.Prg
