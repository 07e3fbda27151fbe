/- What the functions of the program compute: printed by a program off the engine. Conditions: none. -/
import Derived.Test.YthiajmikeaolmaaEng25
namespace Go.Prg
open Go.Eng
set_option linter.all false

noncomputable def F_l_a2Long (x : ((List Int) × (List Int))) : Option Bool :=
  (cond (igt (n2i (xlen x.1)) 3000)
    (some true)
    (some (igt (n2i (xlen x.2)) 3000)))

noncomputable def F_s_l00From (x : (List Int)) : Option ((List Int) × (Int × Int)) :=
  (some (x, (0, 0)))

noncomputable def F_s_l08Right (x : (Int × (Int × (Int × Int)))) : Option (Int × (Int × (Int × (Int × Int)))) :=
  (chk (okDiv x.1)
  (chk (okDiv x.1)
  (some (x.2.1, (x.2.2.1, (x.2.2.2, ((irem (iadd .i64 (iadd .i64 x.2.1 x.2.2.1) x.2.2.2) x.1), (iquo .i64 (iadd .i64 (iadd .i64 x.2.1 x.2.2.1) x.2.2.2) x.1))))))))

noncomputable def F_s_l08Table (x : Int) : Option (List (Int × (Int × (Int × (Int × Int))))) :=
  (iter (σ := (Int × (Int × (List (Int × (Int × (Int × (Int × Int)))))))) (fun s1 =>
    (cond (ilt s1.2.1 (imul .i64 (imul .i64 2 s1.1) s1.1))
      (chk (okDiv s1.1)
      (chk (okDiv s1.1)
      (chk (okDiv s1.1)
      (chk (okDiv s1.1)
      (chk (okDiv s1.1)
      (Option.bind (F_s_l08Right (s1.1, ((iquo .i64 (iquo .i64 s1.2.1 s1.1) s1.1), ((irem (iquo .i64 s1.2.1 s1.1) s1.1), (irem s1.2.1 s1.1))))) fun r3 =>
        (chk (okRoom (xlen s1.2.2) (xlen ((r3.1, (r3.2.1, (r3.2.2.1, r3.2.2.2))) :: ([] : (List (Int × (Int × (Int × (Int × Int)))))))) 40)
        (some (.inl (s1.1, ((iadd .i64 s1.2.1 1), (xapp s1.2.2 ((r3.1, (r3.2.1, (r3.2.2.1, r3.2.2.2))) :: ([] : (List (Int × (Int × (Int × (Int × Int)))))))))))))))))))
      (some (.inr s1.2.2))))
    (x, (0, ([] : (List (Int × (Int × (Int × (Int × Int)))))))))

noncomputable def F_s_l00Src_next (x : ((List Int) × (Int × Int))) : Option (Int × ((List Int) × (Int × Int))) :=
  (cond (ilt x.2.1 (n2i (xlen x.1)))
    (chk (okIx x.2.1 (xlen x.1))
    (cond (ile (iadd .i64 x.2.1 1) (n2i (xlen x.1)))
      (some ((iwrap .i64 (xget x.1 (i2n x.2.1) 0)), (x.1, ((iadd .i64 x.2.1 1), (iadd .u64 (iadd .u64 (imul .u64 x.2.2 6364136223846793005) (iwrap .u64 (iwrap .i64 (xget x.1 (i2n x.2.1) 0)))) 1442695040888963407)))))
      (chk (okShift .u64 40)
      (some ((iwrap .i64 (ibit .and .u64 (ishr (iadd .u64 (iadd .u64 (imul .u64 x.2.2 6364136223846793005) (iwrap .u64 (iwrap .i64 (xget x.1 (i2n x.2.1) 0)))) 1442695040888963407) 40) 255)), (x.1, ((iadd .i64 x.2.1 1), (iadd .u64 (iadd .u64 (imul .u64 x.2.2 6364136223846793005) (iwrap .u64 (iwrap .i64 (xget x.1 (i2n x.2.1) 0)))) 1442695040888963407))))))))
    (cond (ile (iadd .i64 x.2.1 1) (n2i (xlen x.1)))
      (some (0, (x.1, ((iadd .i64 x.2.1 1), (iadd .u64 (iadd .u64 (imul .u64 x.2.2 6364136223846793005) (iwrap .u64 0)) 1442695040888963407)))))
      (chk (okShift .u64 40)
      (some ((iwrap .i64 (ibit .and .u64 (ishr (iadd .u64 (iadd .u64 (imul .u64 x.2.2 6364136223846793005) (iwrap .u64 0)) 1442695040888963407) 40) 255)), (x.1, ((iadd .i64 x.2.1 1), (iadd .u64 (iadd .u64 (imul .u64 x.2.2 6364136223846793005) (iwrap .u64 0)) 1442695040888963407))))))))

noncomputable def F_s_l00Src_pick (x : (((List Int) × (Int × Int)) × Int)) : Option (Int × ((List Int) × (Int × Int))) :=
  (cond (ile x.2 1)
    (some (0, (x.1.1, x.1.2)))
    (Option.bind (F_s_l00Src_next (x.1.1, x.1.2)) fun r2 =>
      (cond (igt x.2 200)
        (Option.bind (F_s_l00Src_next (r2.2.1, r2.2.2)) fun r4 =>
          (chk (okDiv x.2)
          (some ((irem (iadd .i64 (imul .i64 r2.1 256) r4.1) x.2), (r4.2.1, r4.2.2)))))
        (chk (okDiv x.2)
        (some ((irem r2.1 x.2), (r2.2.1, r2.2.2)))))))

noncomputable def F_s_l00Src_one (x : (((List Int) × (Int × Int)) × Int)) : Option (Bool × ((List Int) × (Int × Int))) :=
  (Option.bind (F_s_l00Src_pick ((x.1.1, x.1.2), x.2)) fun r1 =>
    (some ((ieq r1.1 0), (r1.2.1, r1.2.2))))

noncomputable def F_s_l00Src_among (x : (((List Int) × (Int × Int)) × (List Int))) : Option (Int × ((List Int) × (Int × Int))) :=
  (Option.bind (F_s_l00Src_pick ((x.1.1, x.1.2), (n2i (xlen x.2)))) fun r1 =>
    (chk (okIx r1.1 (xlen x.2))
    (some ((xget x.2 (i2n r1.1) 0), (r1.2.1, r1.2.2)))))

noncomputable def F_s_l08DrawTable (x : ((List Int) × (Int × Int))) : Option (Int × ((List (Int × (Int × (Int × (Int × Int))))) × ((List Int) × (Int × Int)))) :=
  (Option.bind (F_s_l00Src_pick ((x.1, x.2), 9)) fun r1 =>
    (Option.bind (F_s_l08Table (iadd .i64 2 r1.1)) fun r2 =>
      (Option.bind (F_s_l00Src_pick ((r1.2.1, r1.2.2), 3)) fun r3 =>
        (iter (σ := (Int × (Int × (Int × (Int × ((List Int) × (List (Int × (Int × (Int × (Int × Int))))))))))) (fun s4 =>
          (cond (igt s4.2.1 0)
            (Option.bind (F_s_l00Src_pick ((s4.2.2.2.2.1, (s4.2.2.1, s4.2.2.2.1)), (n2i (xlen s4.2.2.2.2.2)))) fun r6 =>
              (Option.bind (F_s_l00Src_one ((r6.2.1, r6.2.2), 2)) fun r7 =>
                (cond r7.1
                  (Option.bind (F_s_l00Src_pick ((r7.2.1, r7.2.2), (imul .i64 s4.1 s4.1))) fun r9 =>
                    (Option.bind (F_s_l00Src_one ((r9.2.1, r9.2.2), 2)) fun r10 =>
                      (cond r10.1
                        (Option.bind (F_s_l00Src_pick ((r10.2.1, r10.2.2), s4.1)) fun r12 =>
                          (chk (okIx (iadd .i64 (imul .i64 s4.1 s4.1) r9.1) (xlen s4.2.2.2.2.2))
                          (share s4.2.2.2.2.2 fun q13 =>
                            (share (xset q13 (i2n (iadd .i64 (imul .i64 s4.1 s4.1) r9.1)) ((xget q13 (i2n (iadd .i64 (imul .i64 s4.1 s4.1) r9.1)) (0, (0, (0, (0, 0))))).1, ((xget q13 (i2n (iadd .i64 (imul .i64 s4.1 s4.1) r9.1)) (0, (0, (0, (0, 0))))).2.1, ((xget q13 (i2n (iadd .i64 (imul .i64 s4.1 s4.1) r9.1)) (0, (0, (0, (0, 0))))).2.2.1, (r12.1, (xget q13 (i2n (iadd .i64 (imul .i64 s4.1 s4.1) r9.1)) (0, (0, (0, (0, 0))))).2.2.2.2))))) fun q14 =>
                              (some (.inl (s4.1, ((isub .i64 s4.2.1 1), (r12.2.2.1, (r12.2.2.2, (r12.2.1, q14)))))))))))
                        (chk (okIx (iadd .i64 (imul .i64 s4.1 s4.1) r9.1) (xlen s4.2.2.2.2.2))
                        (chk (okIx (iadd .i64 (imul .i64 s4.1 s4.1) r9.1) (xlen s4.2.2.2.2.2))
                        (share s4.2.2.2.2.2 fun q12 =>
                          (share (xset q12 (i2n (iadd .i64 (imul .i64 s4.1 s4.1) r9.1)) ((xget q12 (i2n (iadd .i64 (imul .i64 s4.1 s4.1) r9.1)) (0, (0, (0, (0, 0))))).1, ((xget q12 (i2n (iadd .i64 (imul .i64 s4.1 s4.1) r9.1)) (0, (0, (0, (0, 0))))).2.1, ((xget q12 (i2n (iadd .i64 (imul .i64 s4.1 s4.1) r9.1)) (0, (0, (0, (0, 0))))).2.2.1, ((xget q12 (i2n (iadd .i64 (imul .i64 s4.1 s4.1) r9.1)) (0, (0, (0, (0, 0))))).2.2.2.1, (isub .i64 1 (xget s4.2.2.2.2.2 (i2n (iadd .i64 (imul .i64 s4.1 s4.1) r9.1)) (0, (0, (0, (0, 0))))).2.2.2.2)))))) fun q13 =>
                            (some (.inl (s4.1, ((isub .i64 s4.2.1 1), (r10.2.2.1, (r10.2.2.2, (r10.2.1, q13))))))))))))))
                  (Option.bind (F_s_l00Src_one ((r7.2.1, r7.2.2), 2)) fun r9 =>
                    (cond r9.1
                      (Option.bind (F_s_l00Src_pick ((r9.2.1, r9.2.2), s4.1)) fun r11 =>
                        (chk (okIx r6.1 (xlen s4.2.2.2.2.2))
                        (share s4.2.2.2.2.2 fun q12 =>
                          (share (xset q12 (i2n r6.1) ((xget q12 (i2n r6.1) (0, (0, (0, (0, 0))))).1, ((xget q12 (i2n r6.1) (0, (0, (0, (0, 0))))).2.1, ((xget q12 (i2n r6.1) (0, (0, (0, (0, 0))))).2.2.1, (r11.1, (xget q12 (i2n r6.1) (0, (0, (0, (0, 0))))).2.2.2.2))))) fun q13 =>
                            (some (.inl (s4.1, ((isub .i64 s4.2.1 1), (r11.2.2.1, (r11.2.2.2, (r11.2.1, q13)))))))))))
                      (chk (okIx r6.1 (xlen s4.2.2.2.2.2))
                      (chk (okIx r6.1 (xlen s4.2.2.2.2.2))
                      (share s4.2.2.2.2.2 fun q11 =>
                        (share (xset q11 (i2n r6.1) ((xget q11 (i2n r6.1) (0, (0, (0, (0, 0))))).1, ((xget q11 (i2n r6.1) (0, (0, (0, (0, 0))))).2.1, ((xget q11 (i2n r6.1) (0, (0, (0, (0, 0))))).2.2.1, ((xget q11 (i2n r6.1) (0, (0, (0, (0, 0))))).2.2.2.1, (isub .i64 1 (xget s4.2.2.2.2.2 (i2n r6.1) (0, (0, (0, (0, 0))))).2.2.2.2)))))) fun q12 =>
                          (some (.inl (s4.1, ((isub .i64 s4.2.1 1), (r9.2.2.1, (r9.2.2.2, (r9.2.1, q12))))))))))))))))
            (Option.map Sum.inr
              (Option.bind (F_s_l00Src_pick ((s4.2.2.2.2.1, (s4.2.2.1, s4.2.2.2.1)), 20)) fun r6 =>
              (cond (ieq r6.1 0)
                (chk (okTo (isub .i64 (n2i (xlen s4.2.2.2.2.2)) 1) (xlen s4.2.2.2.2.2))
                (some (s4.1, ((xsub s4.2.2.2.2.2 0 (i2n (isub .i64 (n2i (xlen s4.2.2.2.2.2)) 1))), (r6.2.1, r6.2.2)))))
                (cond (ieq r6.1 1)
                  (Option.bind (F_s_l00Src_among ((r6.2.1, r6.2.2), ((-1) :: (s4.1 :: ([] : (List Int)))))) fun r9 =>
                    (chk (okIx 0 (xlen s4.2.2.2.2.2))
                    (share s4.2.2.2.2.2 fun q10 =>
                      (share (xset q10 (i2n 0) ((xget q10 (i2n 0) (0, (0, (0, (0, 0))))).1, ((xget q10 (i2n 0) (0, (0, (0, (0, 0))))).2.1, ((xget q10 (i2n 0) (0, (0, (0, (0, 0))))).2.2.1, (r9.1, (xget q10 (i2n 0) (0, (0, (0, (0, 0))))).2.2.2.2))))) fun q11 =>
                        (some (s4.1, (q11, (r9.2.1, r9.2.2))))))))
                  (cond (ieq r6.1 2)
                    (Option.bind (F_s_l00Src_among ((r6.2.1, r6.2.2), (1 :: ((iadd .i64 s4.1 1) :: (17 :: ([] : (List Int))))))) fun r10 =>
                      (some (r10.1, (s4.2.2.2.2.2, (r10.2.1, r10.2.2)))))
                    (some (s4.1, (s4.2.2.2.2.2, (r6.2.1, r6.2.2)))))))))))
          ((iadd .i64 2 r1.1), (r3.1, (r3.2.2.1, (r3.2.2.2, (r3.2.1, r2)))))))))

noncomputable def F_s_l00In (x : (Int × (Int × Int))) : Option Bool :=
  (cond (ige x.1 x.2.1)
    (some (ile x.1 x.2.2))
    (some false))

noncomputable def F_s_l08Form (x : (Int × (List (Int × (Int × (Int × (Int × Int))))))) : Option Bool :=
  (Option.bind (F_s_l08Table x.1) fun r1 =>
    (cond (ine (n2i (xlen x.2)) (n2i (xlen r1)))
      (some false)
      (iter (σ := (Int × (Int × ((List (Int × (Int × (Int × (Int × Int))))) × (List (Int × (Int × (Int × (Int × Int))))))))) (fun s3 =>
        (cond (ilt s3.2.1 (n2i (xlen s3.2.2.1)))
          (chk (okIx s3.2.1 (xlen s3.2.2.1))
          (chk (okIx s3.2.1 (xlen s3.2.2.2))
          (cond (ine (xget s3.2.2.1 (i2n s3.2.1) (0, (0, (0, (0, 0))))).1 (xget s3.2.2.2 (i2n s3.2.1) (0, (0, (0, (0, 0))))).1)
            (some (.inr false))
            (cond (ine (xget s3.2.2.1 (i2n s3.2.1) (0, (0, (0, (0, 0))))).2.1 (xget s3.2.2.2 (i2n s3.2.1) (0, (0, (0, (0, 0))))).2.1)
              (some (.inr false))
              (cond (ine (xget s3.2.2.1 (i2n s3.2.1) (0, (0, (0, (0, 0))))).2.2.1 (xget s3.2.2.2 (i2n s3.2.1) (0, (0, (0, (0, 0))))).2.2.1)
                (some (.inr false))
                (Option.bind (F_s_l00In ((xget s3.2.2.1 (i2n s3.2.1) (0, (0, (0, (0, 0))))).2.2.2.1, (0, (isub .i64 s3.1 1)))) fun r8 =>
                  (cond (bnot r8)
                    (some (.inr false))
                    (Option.bind (F_s_l00In ((xget s3.2.2.1 (i2n s3.2.1) (0, (0, (0, (0, 0))))).2.2.2.2, (0, 1))) fun r10 =>
                      (cond (bnot r10)
                        (some (.inr false))
                        (some (.inl (s3.1, ((iadd .i64 s3.2.1 1), s3.2.2)))))))))))))
          (some (.inr true))))
        (x.1, (0, (x.2, r1))))))

noncomputable def F_s_l02Base (x : Int) : Option Bool :=
  (Option.bind (F_s_l00In (x, (2, 16))) fun r1 =>
    (some r1))

noncomputable def F_s_l08Code (x : (Int × (List (Int × (Int × (Int × (Int × Int))))))) : Option Int :=
  (Option.bind (F_s_l02Base x.1) fun r1 =>
    (cond (bnot r1)
      (some 2)
      (Option.bind (F_s_l08Form x) fun r3 =>
        (cond (bnot r3)
          (some 8)
          (some 0)))))

noncomputable def F_s_A2Table (x : (List Int)) : Option (Int × (List (Int × (Int × (Int × (Int × Int)))))) :=
  (Option.bind (F_s_l00From x) fun r1 =>
    (Option.bind (F_s_l08DrawTable (r1.1, r1.2)) fun r2 =>
      (Option.bind (F_s_l08Code (r2.1, r2.2.1)) fun r3 =>
        (cond (ine r3 0)
          (Option.bind (F_s_l08Table 10) fun r5 =>
            (some (10, r5)))
          (some (r2.1, r2.2.1))))))

noncomputable def F_i_between (x : (Int × (Int × Int))) : Option Bool :=
  (cond (ige x.1 x.2.1)
    (some (ile x.1 x.2.2))
    (some false))

noncomputable def F_i_rightTable (x : Int) : Option (List (Int × (Int × (Int × (Int × Int))))) :=
  (iter (σ := (Int × (Int × (List (Int × (Int × (Int × (Int × Int)))))))) (fun s1 =>
    (cond (ilt s1.2.1 2)
      (iter (σ := (Int × (Int × (Int × (Int × (Int × (List (Int × (Int × (Int × (Int × Int))))))))))) (fun s3 =>
        (cond (ilt s3.2.2.2.2.1 s3.2.2.2.1)
          (iter (σ := (Int × (Int × (Int × (Int × (Int × (Int × (Int × (Int × (List (Int × (Int × (Int × (Int × Int)))))))))))))) (fun s5 =>
            (cond (ilt s5.2.2.2.2.2.2.2.1 s5.2.2.2.2.2.2.1)
              (chk (okDiv s5.1)
              (chk (okDiv s5.1)
              (chk (okRoom (xlen s5.2.2.2.2.2.2.2.2) (xlen ((s5.2.1, (s5.2.2.1, (s5.2.2.2.2.2.2.2.1, ((irem (iadd .i64 (iadd .i64 s5.2.1 s5.2.2.1) s5.2.2.2.2.2.2.2.1) s5.1), (iquo .i64 (iadd .i64 (iadd .i64 s5.2.1 s5.2.2.1) s5.2.2.2.2.2.2.2.1) s5.1))))) :: ([] : (List (Int × (Int × (Int × (Int × Int)))))))) 40)
              (some (.inl (s5.1, (s5.2.1, (s5.2.2.1, (s5.2.2.2.1, (s5.2.2.2.2.1, (s5.2.2.2.2.2.1, (s5.2.2.2.2.2.2.1, ((iadd .i64 s5.2.2.2.2.2.2.2.1 1), (xapp s5.2.2.2.2.2.2.2.2 ((s5.2.1, (s5.2.2.1, (s5.2.2.2.2.2.2.2.1, ((irem (iadd .i64 (iadd .i64 s5.2.1 s5.2.2.1) s5.2.2.2.2.2.2.2.1) s5.1), (iquo .i64 (iadd .i64 (iadd .i64 s5.2.1 s5.2.2.1) s5.2.2.2.2.2.2.2.1) s5.1))))) :: ([] : (List (Int × (Int × (Int × (Int × Int)))))))))))))))))))))
              (some (.inr (.inl (s5.1, (s5.2.1, (s5.2.2.2.1, (s5.2.2.2.2.1, ((iadd .i64 s5.2.2.2.2.2.1 1), s5.2.2.2.2.2.2.2.2))))))))))
            (s3.1, (s3.2.1, (s3.2.2.2.2.1, (s3.2.2.1, (s3.2.2.2.1, (s3.2.2.2.2.1, (s3.1, (0, s3.2.2.2.2.2)))))))))
          (some (.inr (.inl (s3.1, ((iadd .i64 s3.2.2.1 1), s3.2.2.2.2.2)))))))
        (s1.1, (s1.2.1, (s1.2.1, (s1.1, (0, s1.2.2))))))
      (some (.inr s1.2.2))))
    (x, (0, ([] : (List (Int × (Int × (Int × (Int × Int)))))))))

noncomputable def F_i_isAddTable (x : (Int × (List (Int × (Int × (Int × (Int × Int))))))) : Option Bool :=
  (Option.bind (F_i_rightTable x.1) fun r1 =>
    (cond (ine (n2i (xlen x.2)) (n2i (xlen r1)))
      (some false)
      (iter (σ := (Int × (Int × (Int × ((List (Int × (Int × (Int × (Int × Int))))) × (List (Int × (Int × (Int × (Int × Int)))))))))) (fun s3 =>
        (cond (ilt s3.2.2.1 s3.2.1)
          (chk (okIx s3.2.2.1 (xlen s3.2.2.2.2))
          (chk (okIx s3.2.2.1 (xlen s3.2.2.2.1))
          (cond (ine (xget s3.2.2.2.2 (i2n s3.2.2.1) (0, (0, (0, (0, 0))))).1 (xget s3.2.2.2.1 (i2n s3.2.2.1) (0, (0, (0, (0, 0))))).1)
            (some (.inr false))
            (chk (okIx s3.2.2.1 (xlen s3.2.2.2.1))
            (cond (ine (xget s3.2.2.2.2 (i2n s3.2.2.1) (0, (0, (0, (0, 0))))).2.1 (xget s3.2.2.2.1 (i2n s3.2.2.1) (0, (0, (0, (0, 0))))).2.1)
              (some (.inr false))
              (chk (okIx s3.2.2.1 (xlen s3.2.2.2.1))
              (cond (ine (xget s3.2.2.2.2 (i2n s3.2.2.1) (0, (0, (0, (0, 0))))).2.2.1 (xget s3.2.2.2.1 (i2n s3.2.2.1) (0, (0, (0, (0, 0))))).2.2.1)
                (some (.inr false))
                (Option.bind (F_i_between ((xget s3.2.2.2.2 (i2n s3.2.2.1) (0, (0, (0, (0, 0))))).2.2.2.1, (0, (isub .i64 s3.1 1)))) fun r8 =>
                  (cond (bnot r8)
                    (some (.inr false))
                    (Option.bind (F_i_between ((xget s3.2.2.2.2 (i2n s3.2.2.1) (0, (0, (0, (0, 0))))).2.2.2.2, (0, 1))) fun r10 =>
                      (cond (bnot r10)
                        (some (.inr false))
                        (some (.inl (s3.1, (s3.2.1, ((iadd .i64 s3.2.2.1 1), s3.2.2.2))))))))))))))))
          (some (.inr true))))
        (x.1, ((n2i (xlen x.2)), (0, (r1, x.2)))))))

noncomputable def F_i_isBase (x : Int) : Option Bool :=
  (Option.bind (F_i_between (x, (2, 16))) fun r1 =>
    (some r1))

noncomputable def F_i_tableCode (x : (Int × (List (Int × (Int × (Int × (Int × Int))))))) : Option Int :=
  (Option.bind (F_i_isBase x.1) fun r1 =>
    (cond (bnot r1)
      (some 2)
      (Option.bind (F_i_isAddTable x) fun r3 =>
        (cond (bnot r3)
          (some 8)
          (some 0)))))

noncomputable def F_i_wrongRow (x : (Int × (List (Int × (Int × (Int × (Int × Int))))))) : Option Int :=
  (Option.bind (F_i_rightTable x.1) fun r1 =>
    (iter (σ := (Int × (Int × ((List (Int × (Int × (Int × (Int × Int))))) × (List (Int × (Int × (Int × (Int × Int))))))))) (fun s2 =>
      (cond (ilt s2.2.1 s2.1)
        (chk (okIx s2.2.1 (xlen s2.2.2.2))
        (chk (okIx s2.2.1 (xlen s2.2.2.1))
        (cond (bnot (band (ieq (xget s2.2.2.1 (i2n s2.2.1) (0, (0, (0, (0, 0))))).1 (xget s2.2.2.2 (i2n s2.2.1) (0, (0, (0, (0, 0))))).1) (band (ieq (xget s2.2.2.1 (i2n s2.2.1) (0, (0, (0, (0, 0))))).2.1 (xget s2.2.2.2 (i2n s2.2.1) (0, (0, (0, (0, 0))))).2.1) (band (ieq (xget s2.2.2.1 (i2n s2.2.1) (0, (0, (0, (0, 0))))).2.2.1 (xget s2.2.2.2 (i2n s2.2.1) (0, (0, (0, (0, 0))))).2.2.1) (band (ieq (xget s2.2.2.1 (i2n s2.2.1) (0, (0, (0, (0, 0))))).2.2.2.1 (xget s2.2.2.2 (i2n s2.2.1) (0, (0, (0, (0, 0))))).2.2.2.1) (band (ieq (xget s2.2.2.1 (i2n s2.2.1) (0, (0, (0, (0, 0))))).2.2.2.2 (xget s2.2.2.2 (i2n s2.2.1) (0, (0, (0, (0, 0))))).2.2.2.2) true))))))
          (some (.inr s2.2.1))
          (some (.inl (s2.1, ((iadd .i64 s2.2.1 1), s2.2.2)))))))
        (some (.inr (-1)))))
      ((n2i (xlen r1)), (0, (x.2, r1)))))

noncomputable def F_i_TableFault (x : (Int × (List (Int × (Int × (Int × (Int × Int))))))) : Option (Int × Int) :=
  (Option.bind (F_i_tableCode x) fun r1 =>
    (cond (ine r1 0)
      (some (0, r1))
      (Option.bind (F_i_wrongRow x) fun r3 =>
        (some (r3, 0)))))

noncomputable def F_i_TableWitness (x : (Int × (List (Int × (Int × (Int × (Int × Int))))))) : Option ((Int × (List Int)) × ((Int × (List Int)) × Int)) :=
  (Option.bind (F_i_tableCode x) fun r1 =>
    (cond (ine r1 0)
      (some ((0, ([] : (List Int))), ((0, ([] : (List Int))), r1)))
      (Option.bind (F_i_wrongRow x) fun r3 =>
        (cond (ilt r3 0)
          (some ((0, ([] : (List Int))), ((0, ([] : (List Int))), 3)))
          (chk (okIx r3 (xlen x.2))
          (cond (ieq (xget x.2 (i2n r3) (0, (0, (0, (0, 0))))).1 1)
            (some ((x.1, ((isub .i64 x.1 1) :: ((xget x.2 (i2n r3) (0, (0, (0, (0, 0))))).2.1 :: ([] : (List Int))))), ((x.1, (1 :: ((xget x.2 (i2n r3) (0, (0, (0, (0, 0))))).2.2.1 :: ([] : (List Int))))), 0)))
            (some ((x.1, ((xget x.2 (i2n r3) (0, (0, (0, (0, 0))))).2.1 :: ([] : (List Int)))), ((x.1, ((xget x.2 (i2n r3) (0, (0, (0, (0, 0))))).2.2.1 :: ([] : (List Int)))), 0)))))))))

noncomputable def F_l_a2At (x : ((List Int) × (Int × Int))) : Option Int :=
  (cond (ige x.2.1 (n2i (xlen x.1)))
    (some 0)
    (cond (ilt x.2.2 1)
      (some 0)
      (chk (okIx x.2.1 (xlen x.1))
      (chk (okDiv x.2.2)
      (some (irem (iwrap .i64 (xget x.1 (i2n x.2.1) 0)) x.2.2))))))

noncomputable def F_i_isRegisterWidth (x : Int) : Option Bool :=
  (Option.bind (F_i_between (x, (1, 16))) fun r1 =>
    (some r1))

noncomputable def F_i_Register_value (x : (Int × (List Int))) : Option Int :=
  (iter (σ := (Int × (Int × (Int × (List Int))))) (fun s1 =>
    (cond (ige s1.2.1 0)
      (chk (okIx s1.2.1 (xlen s1.2.2.2))
      (cond (igt (iadd .i64 (imul .i64 s1.1 s1.2.2.1) (xget s1.2.2.2 (i2n s1.2.1) 0)) 1000000000000)
        (some (.inr 1000000000001))
        (some (.inl ((iadd .i64 (imul .i64 s1.1 s1.2.2.1) (xget s1.2.2.2 (i2n s1.2.1) 0)), ((isub .i64 s1.2.1 1), s1.2.2))))))
      (some (.inr s1.1))))
    (0, ((isub .i64 (n2i (xlen x.2)) 1), x)))

noncomputable def F_i_ValidRegister (x : (Int × (List Int))) : Option Bool :=
  (Option.bind (F_i_isBase x.1) fun r1 =>
    (cond (bnot r1)
      (some false)
      (Option.bind (F_i_isRegisterWidth (n2i (xlen x.2))) fun r3 =>
        (cond (bnot r3)
          (some false)
          (iter (σ := (Int × (Int × (Int × (List Int))))) (fun s5 =>
            (cond (ilt s5.2.1 s5.1)
              (chk (okIx s5.2.1 (xlen s5.2.2.2))
              (Option.bind (F_i_between ((xget s5.2.2.2 (i2n s5.2.1) 0), (0, (isub .i64 s5.2.2.1 1)))) fun r7 =>
                (cond (bnot r7)
                  (some (.inr false))
                  (some (.inl (s5.1, ((iadd .i64 s5.2.1 1), s5.2.2)))))))
              (Option.map Sum.inr
                (Option.bind (F_i_Register_value s5.2.2) fun r7 =>
                (some (ile r7 1000000000000))))))
            ((n2i (xlen x.2)), (0, x)))))))

noncomputable def F_i_Register_width (x : (Int × (List Int))) : Option Int :=
  (some (n2i (xlen x.2)))

noncomputable def F_i_pairCode (x : ((Int × (List Int)) × (Int × (List Int)))) : Option Int :=
  (Option.bind (F_i_ValidRegister x.1) fun r1 =>
    (cond (bnot r1)
      (some 1)
      (Option.bind (F_i_ValidRegister x.2) fun r3 =>
        (cond (bnot r3)
          (some 1)
          (cond (ine x.1.1 x.2.1)
            (some 6)
            (Option.bind (F_i_Register_width x.1) fun r6 =>
              (Option.bind (F_i_Register_width x.2) fun r7 =>
                (cond (ine r6 r7)
                  (some 6)
                  (some 0)))))))))

noncomputable def F_i_whole (x : ((Int × (List Int)) × Int)) : Option ((Int × (List Int)) × (Int × Int)) :=
  (Option.bind (F_i_ValidRegister x.1) fun r1 =>
    (cond (bnot r1)
      (some ((0, ([] : (List Int))), (0, 5)))
      (some (x.1, (x.2, 0)))))

noncomputable def F_i_AddByTable (x : ((List (Int × (Int × (Int × (Int × Int))))) × ((Int × (List Int)) × (Int × (List Int))))) : Option ((Int × (List Int)) × (Int × Int)) :=
  (Option.bind (F_i_pairCode (x.2.1, x.2.2)) fun r1 =>
    (cond (ine r1 0)
      (some ((0, ([] : (List Int))), (0, r1)))
      (Option.bind (F_i_isAddTable (x.2.1.1, x.1)) fun r3 =>
        (cond (bnot r3)
          (some ((0, ([] : (List Int))), (0, 8)))
          (iter (σ := (Int × (Int × (Int × ((List (Int × (Int × (Int × (Int × Int))))) × (Int × ((List Int) × (Int × ((List Int) × (Int × ((List Int) × (Int × (List Int))))))))))))) (fun s5 =>
            (cond (ilt s5.2.2.1 s5.2.1)
              (chk (okIx s5.2.2.1 (xlen s5.2.2.2.2.2.1))
              (chk (okIx s5.2.2.1 (xlen s5.2.2.2.2.2.2.2.1))
              (chk (okIx (iadd .i64 (imul .i64 (iadd .i64 (imul .i64 s5.1 s5.2.2.2.2.1) (xget s5.2.2.2.2.2.1 (i2n s5.2.2.1) 0)) s5.2.2.2.2.1) (xget s5.2.2.2.2.2.2.2.1 (i2n s5.2.2.1) 0)) (xlen s5.2.2.2.1))
              (chk (okRoom (xlen s5.2.2.2.2.2.2.2.2.2.2.2) (xlen ((xget s5.2.2.2.1 (i2n (iadd .i64 (imul .i64 (iadd .i64 (imul .i64 s5.1 s5.2.2.2.2.1) (xget s5.2.2.2.2.2.1 (i2n s5.2.2.1) 0)) s5.2.2.2.2.1) (xget s5.2.2.2.2.2.2.2.1 (i2n s5.2.2.1) 0))) (0, (0, (0, (0, 0))))).2.2.2.1 :: ([] : (List Int)))) 8)
              (some (.inl ((xget s5.2.2.2.1 (i2n (iadd .i64 (imul .i64 (iadd .i64 (imul .i64 s5.1 s5.2.2.2.2.1) (xget s5.2.2.2.2.2.1 (i2n s5.2.2.1) 0)) s5.2.2.2.2.1) (xget s5.2.2.2.2.2.2.2.1 (i2n s5.2.2.1) 0))) (0, (0, (0, (0, 0))))).2.2.2.2, (s5.2.1, ((iadd .i64 s5.2.2.1 1), (s5.2.2.2.1, (s5.2.2.2.2.1, (s5.2.2.2.2.2.1, (s5.2.2.2.2.2.2.1, (s5.2.2.2.2.2.2.2.1, (s5.2.2.2.2.2.2.2.2.1, (s5.2.2.2.2.2.2.2.2.2.1, (s5.2.2.2.2.2.2.2.2.2.2.1, (xapp s5.2.2.2.2.2.2.2.2.2.2.2 ((xget s5.2.2.2.1 (i2n (iadd .i64 (imul .i64 (iadd .i64 (imul .i64 s5.1 s5.2.2.2.2.1) (xget s5.2.2.2.2.2.1 (i2n s5.2.2.1) 0)) s5.2.2.2.2.1) (xget s5.2.2.2.2.2.2.2.1 (i2n s5.2.2.1) 0))) (0, (0, (0, (0, 0))))).2.2.2.1 :: ([] : (List Int)))))))))))))))))))))
              (Option.map Sum.inr
                (Option.bind (F_i_whole (s5.2.2.2.2.2.2.2.2.2.2, s5.1)) fun r7 =>
                (some (r7.1, r7.2))))))
            (0, ((n2i (xlen x.2.1.2)), (0, (x.1, (x.2.1.1, (x.2.1.2, (x.2.2.1, (x.2.2.2, (0, (([] : (List Int)), (x.2.1.1, ([] : (List Int))))))))))))))))))

noncomputable def F_s_l02Digits (x : (Int × (List Int))) : Option Bool :=
  (iter (σ := (Int × (Int × (List Int)))) (fun s1 =>
    (cond (ilt s1.2.1 (n2i (xlen s1.2.2)))
      (chk (okIx s1.2.1 (xlen s1.2.2))
      (Option.bind (F_s_l00In ((xget s1.2.2 (i2n s1.2.1) 0), (0, (isub .i64 s1.1 1)))) fun r3 =>
        (cond (bnot r3)
          (some (.inr false))
          (some (.inl (s1.1, ((iadd .i64 s1.2.1 1), s1.2.2)))))))
      (Option.map Sum.inr
        (Option.bind (F_s_l00In ((n2i (xlen s1.2.2)), (1, 16))) fun r3 =>
        (some r3)))))
    (x.1, (0, x.2)))

noncomputable def F_s_l00Min (x : (Int × Int)) : Option Int :=
  (cond (ilt x.1 x.2)
    (some x.1)
    (some x.2))

noncomputable def F_s_l02Value (x : (Int × (List Int))) : Option Int :=
  (iter (σ := (Int × (Int × (Int × (List Int))))) (fun s1 =>
    (cond (ige s1.2.2.1 0)
      (chk (okIx s1.2.2.1 (xlen s1.2.2.2))
      (Option.bind (F_s_l00Min (1000000000001, (iadd .i64 (imul .i64 s1.2.1 s1.1) (xget s1.2.2.2 (i2n s1.2.2.1) 0)))) fun r3 =>
        (some (.inl (s1.1, (r3, ((isub .i64 s1.2.2.1 1), s1.2.2.2)))))))
      (some (.inr s1.2.1))))
    (x.1, (0, ((isub .i64 (n2i (xlen x.2)) 1), x.2))))

noncomputable def F_s_l02Ok (x : (Int × (List Int))) : Option Bool :=
  (Option.bind (F_s_l02Base x.1) fun r1 =>
    (cond r1
      (Option.bind (F_s_l02Digits x) fun r3 =>
        (cond r3
          (Option.bind (F_s_l02Value x) fun r5 =>
            (some (ile r5 1000000000000)))
          (some false)))
      (some false)))

noncomputable def F_s_l02Two (x : ((Int × (List Int)) × (Int × (List Int)))) : Option Int :=
  (Option.bind (F_s_l02Ok x.1) fun r1 =>
    (cond (bnot r1)
      (some 1)
      (Option.bind (F_s_l02Ok x.2) fun r3 =>
        (cond (bnot r3)
          (some 1)
          (cond (ine x.1.1 x.2.1)
            (some 6)
            (cond (ine (n2i (xlen x.1.2)) (n2i (xlen x.2.2)))
              (some 6)
              (some 0)))))))

noncomputable def F_s_l02Carries (x : ((Int × (List Int)) × (Int × (List Int)))) : Option (List Int) :=
  (iter (σ := (Int × (Int × ((List (Int × (List Int))) × ((List (Int × (List Int))) × (List Int)))))) (fun s1 =>
    (cond (ilt s1.2.1 (n2i (xlen (xget s1.2.2.1 0 (0, ([] : (List Int)))).2)))
      (chk (okIx s1.2.1 (xlen (xget s1.2.2.1 0 (0, ([] : (List Int)))).2))
      (chk (okIx s1.2.1 (xlen (xget s1.2.2.2.1 0 (0, ([] : (List Int)))).2))
      (chk (okDiv (xget s1.2.2.1 0 (0, ([] : (List Int)))).1)
      (chk (okRoom (xlen s1.2.2.2.2) (xlen ((iquo .i64 (iadd .i64 (iadd .i64 (xget (xget s1.2.2.1 0 (0, ([] : (List Int)))).2 (i2n s1.2.1) 0) (xget (xget s1.2.2.2.1 0 (0, ([] : (List Int)))).2 (i2n s1.2.1) 0)) s1.1) (xget s1.2.2.1 0 (0, ([] : (List Int)))).1) :: ([] : (List Int)))) 8)
      (some (.inl ((iquo .i64 (iadd .i64 (iadd .i64 (xget (xget s1.2.2.1 0 (0, ([] : (List Int)))).2 (i2n s1.2.1) 0) (xget (xget s1.2.2.2.1 0 (0, ([] : (List Int)))).2 (i2n s1.2.1) 0)) s1.1) (xget s1.2.2.1 0 (0, ([] : (List Int)))).1), ((iadd .i64 s1.2.1 1), (s1.2.2.1, (s1.2.2.2.1, (xapp s1.2.2.2.2 ((iquo .i64 (iadd .i64 (iadd .i64 (xget (xget s1.2.2.1 0 (0, ([] : (List Int)))).2 (i2n s1.2.1) 0) (xget (xget s1.2.2.2.1 0 (0, ([] : (List Int)))).2 (i2n s1.2.1) 0)) s1.1) (xget s1.2.2.1 0 (0, ([] : (List Int)))).1) :: ([] : (List Int))))))))))))))
      (some (.inr s1.2.2.2.2))))
    (0, (0, ((x.1 :: ([] : (List (Int × (List Int))))), ((x.2 :: ([] : (List (Int × (List Int))))), (0 :: ([] : (List Int))))))))

noncomputable def F_s_l02Add (x : ((Int × (List Int)) × (Int × (List Int)))) : Option ((Int × (List Int)) × Int) :=
  (Option.bind (F_s_l02Carries x) fun r1 =>
    (iter (σ := (Int × ((List (Int × (List Int))) × ((List (Int × (List Int))) × (Int × ((List Int) × ((List Int) × (Int × (List Int))))))))) (fun s2 =>
      (cond (ilt s2.1 (n2i (xlen (xget s2.2.1 0 (0, ([] : (List Int)))).2)))
        (chk (okIx s2.1 (xlen (xget s2.2.1 0 (0, ([] : (List Int)))).2))
        (chk (okIx s2.1 (xlen (xget s2.2.2.1 0 (0, ([] : (List Int)))).2))
        (chk (okIx s2.1 (xlen s2.2.2.2.2.2.1))
        (chk (okDiv (xget s2.2.1 0 (0, ([] : (List Int)))).1)
        (chk (okRoom (xlen s2.2.2.2.2.2.2.2) (xlen ((irem (iadd .i64 (iadd .i64 (xget (xget s2.2.1 0 (0, ([] : (List Int)))).2 (i2n s2.1) 0) (xget (xget s2.2.2.1 0 (0, ([] : (List Int)))).2 (i2n s2.1) 0)) (xget s2.2.2.2.2.2.1 (i2n s2.1) 0)) (xget s2.2.1 0 (0, ([] : (List Int)))).1) :: ([] : (List Int)))) 8)
        (some (.inl ((iadd .i64 s2.1 1), (s2.2.1, (s2.2.2.1, (s2.2.2.2.1, (s2.2.2.2.2.1, (s2.2.2.2.2.2.1, (s2.2.2.2.2.2.2.1, (xapp s2.2.2.2.2.2.2.2 ((irem (iadd .i64 (iadd .i64 (xget (xget s2.2.1 0 (0, ([] : (List Int)))).2 (i2n s2.1) 0) (xget (xget s2.2.2.1 0 (0, ([] : (List Int)))).2 (i2n s2.1) 0)) (xget s2.2.2.2.2.2.1 (i2n s2.1) 0)) (xget s2.2.1 0 (0, ([] : (List Int)))).1) :: ([] : (List Int))))))))))))))))))
        (Option.map Sum.inr
          (chk (okIx (n2i (xlen (xget s2.2.1 0 (0, ([] : (List Int)))).2)) (xlen s2.2.2.2.2.2.1))
        (some (s2.2.2.2.2.2.2, (xget s2.2.2.2.2.2.1 (i2n (n2i (xlen (xget s2.2.1 0 (0, ([] : (List Int)))).2))) 0)))))))
      (0, ((x.1 :: ([] : (List (Int × (List Int))))), ((x.2 :: ([] : (List (Int × (List Int))))), (0, (([] : (List Int)), (r1, (x.1.1, ([] : (List Int)))))))))))

noncomputable def F_s_AddRegisters (x : ((Int × (List Int)) × (Int × (List Int)))) : Option ((Int × (List Int)) × (Int × Int)) :=
  (Option.bind (F_s_l02Two (x.1, x.2)) fun r1 =>
    (cond (ine r1 0)
      (some ((0, ([] : (List Int))), (0, r1)))
      (Option.bind (F_s_l02Add (x.1, x.2)) fun r3 =>
        (Option.bind (F_s_l02Ok r3.1) fun r4 =>
          (cond (bnot r4)
            (some ((0, ([] : (List Int))), (0, 5)))
            (some (r3.1, (r3.2, 0))))))))

noncomputable def F_s_l00Same (x : ((List Int) × (List Int))) : Option Bool :=
  (cond (ine (n2i (xlen x.1)) (n2i (xlen x.2)))
    (some false)
    (iter (σ := (Int × ((List Int) × (List Int)))) (fun s2 =>
      (cond (ilt s2.1 (n2i (xlen s2.2.1)))
        (chk (okIx s2.1 (xlen s2.2.1))
        (chk (okIx s2.1 (xlen s2.2.2))
        (cond (ine (xget s2.2.1 (i2n s2.1) 0) (xget s2.2.2 (i2n s2.1) 0))
          (some (.inr false))
          (some (.inl ((iadd .i64 s2.1 1), s2.2))))))
        (some (.inr true))))
      (0, x)))

noncomputable def F_s_l02Same (x : ((Int × (List Int)) × (Int × (List Int)))) : Option Bool :=
  (cond (ieq x.1.1 x.2.1)
    (Option.bind (F_s_l00Same (x.1.2, x.2.2)) fun r2 =>
      (some r2))
    (some false))

noncomputable def F_s_SameRegister (x : ((Int × (List Int)) × (Int × (List Int)))) : Option Bool :=
  (Option.bind (F_s_l02Same (x.1, x.2)) fun r1 =>
    (some r1))

noncomputable def F_s_ValidRegister (x : (Int × (List Int))) : Option Bool :=
  (Option.bind (F_s_l02Ok x) fun r1 =>
    (some r1))

noncomputable def F_l_FnTables (x : ((List Int) × (List Int))) : Option Bool :=
  (Option.bind (F_l_a2Long x) fun r1 =>
    (cond r1
      (some true)
      (Option.bind (F_s_A2Table x.1) fun r3 =>
        (Option.bind (F_i_TableFault r3) fun r4 =>
          (Option.bind (F_i_TableWitness r3) fun r5 =>
            (cond (ine r4.2 0)
              (some false)
              (cond (ilt r4.1 0)
                (iter (σ := (Int × (Int × (Int × (Int × ((List Int) × ((List (Int × (Int × (Int × (Int × Int))))) × ((List Int) × (List Int))))))))) (fun s8 =>
                  (cond (ilt s8.2.2.2.1 6)
                    (Option.bind (F_l_a2At (s8.2.2.2.2.1, ((imul .i64 2 s8.2.2.2.1), s8.1))) fun r10 =>
                      (chk (okRoom (xlen s8.2.2.2.2.2.2.1) (xlen (r10 :: ([] : (List Int)))) 8)
                      (Option.bind (F_l_a2At (s8.2.2.2.2.1, ((iadd .i64 (imul .i64 2 s8.2.2.2.1) 1), s8.1))) fun r11 =>
                        (chk (okRoom (xlen s8.2.2.2.2.2.2.2) (xlen (r11 :: ([] : (List Int)))) 8)
                        (some (.inl (s8.1, (s8.2.1, (s8.2.2.1, ((iadd .i64 s8.2.2.2.1 1), (s8.2.2.2.2.1, (s8.2.2.2.2.2.1, ((xapp s8.2.2.2.2.2.2.1 (r10 :: ([] : (List Int)))), (xapp s8.2.2.2.2.2.2.2 (r11 :: ([] : (List Int)))))))))))))))))
                    (Option.map Sum.inr
                      (Option.bind (F_i_AddByTable (s8.2.2.2.2.2.1, ((s8.1, s8.2.2.2.2.2.2.1), (s8.1, s8.2.2.2.2.2.2.2)))) fun r10 =>
                      (Option.bind (F_s_AddRegisters ((s8.1, s8.2.2.2.2.2.2.1), (s8.1, s8.2.2.2.2.2.2.2))) fun r11 =>
                        (cond (ieq s8.2.1 (-1))
                          (cond (ieq s8.2.2.1 3)
                            (cond (ieq r10.2.2 0)
                              (cond (ieq r11.2.2 0)
                                (Option.bind (F_s_SameRegister (r10.1, r11.1)) fun r16 =>
                                  (cond r16
                                    (some (ieq r10.2.1 r11.2.1))
                                    (some false)))
                                (some false))
                              (some false))
                            (some false))
                          (some false)))))))
                  (r3.1, (r4.1, (r5.2.2, (0, (x.2, (r3.2, (([] : (List Int)), ([] : (List Int))))))))))
                (cond (ine r5.2.2 0)
                  (some false)
                  (cond (ige r4.1 (n2i (xlen r3.2)))
                    (some false)
                    (cond (igt (n2i (xlen r5.1.2)) 2)
                      (some false)
                      (Option.bind (F_s_ValidRegister r5.1) fun r11 =>
                        (cond (bnot r11)
                          (some false)
                          (Option.bind (F_s_ValidRegister r5.2.1) fun r13 =>
                            (cond (bnot r13)
                              (some false)
                              (Option.bind (F_i_AddByTable (r3.2, (r5.1, r5.2.1))) fun r15 =>
                                (Option.bind (F_s_AddRegisters (r5.1, r5.2.1)) fun r16 =>
                                  (cond (ieq r15.2.2 0)
                                    (cond (ieq r16.2.2 0)
                                      (Option.bind (F_s_SameRegister (r15.1, r16.1)) fun r19 =>
                                        (cond (bnot r19)
                                          (some true)
                                          (some (ine r15.2.1 r16.2.1))))
                                      (some false))
                                    (some false))))))))))))))))))

noncomputable def F_l_szInt64S (x : ((List Int) × Int)) : Option Int :=
  (cond (ilt (isub .i64 x.2 (n2i (xlen x.1))) 0)
    (some (-1))
    (some (isub .i64 x.2 (n2i (xlen x.1)))))

noncomputable def F_l_szRegister (x : ((Int × (List Int)) × Int)) : Option Int :=
  (Option.bind (F_l_szInt64S (x.1.2, x.2)) fun r1 =>
    (cond (ilt r1 0)
      (some (-1))
      (some r1)))

noncomputable def F_l_szTrial (x : (((Int × (List Int)) × ((Int × (List Int)) × ((Int × (List Int)) × Int))) × Int)) : Option Int :=
  (Option.bind (F_l_szRegister (x.1.1, x.2)) fun r1 =>
    (cond (ilt r1 0)
      (some (-1))
      (Option.bind (F_l_szRegister (x.1.2.1, r1)) fun r3 =>
        (cond (ilt r3 0)
          (some (-1))
          (Option.bind (F_l_szRegister (x.1.2.2.1, r3)) fun r5 =>
            (cond (ilt r5 0)
              (some (-1))
              (some r5)))))))

noncomputable def F_l_szTrialS (x : ((List ((Int × (List Int)) × ((Int × (List Int)) × ((Int × (List Int)) × Int)))) × Int)) : Option Int :=
  (cond (ilt (isub .i64 x.2 (n2i (xlen x.1))) 0)
    (some (-1))
    (iter (σ := (Int × (Int × (List ((Int × (List Int)) × ((Int × (List Int)) × ((Int × (List Int)) × Int))))))) (fun s2 =>
      (cond (ilt s2.2.1 (n2i (xlen s2.2.2)))
        (chk (okIx s2.2.1 (xlen s2.2.2))
        (Option.bind (F_l_szTrial (((xget s2.2.2 (i2n s2.2.1) ((0, ([] : (List Int))), ((0, ([] : (List Int))), ((0, ([] : (List Int))), 0)))).1, ((xget s2.2.2 (i2n s2.2.1) ((0, ([] : (List Int))), ((0, ([] : (List Int))), ((0, ([] : (List Int))), 0)))).2.1, ((xget s2.2.2 (i2n s2.2.1) ((0, ([] : (List Int))), ((0, ([] : (List Int))), ((0, ([] : (List Int))), 0)))).2.2.1, (xget s2.2.2 (i2n s2.2.1) ((0, ([] : (List Int))), ((0, ([] : (List Int))), ((0, ([] : (List Int))), 0)))).2.2.2))), s2.1)) fun r4 =>
          (cond (ilt r4 0)
            (some (.inr (-1)))
            (some (.inl (r4, ((iadd .i64 s2.2.1 1), s2.2.2)))))))
        (some (.inr s2.1))))
      ((isub .i64 x.2 (n2i (xlen x.1))), (0, x.1))))

noncomputable def F_s_l20Like (x : ((Int × (List Int)) × (Int × (List Int)))) : Option Bool :=
  (Option.bind (F_s_l02Ok x.1) fun r1 =>
    (cond r1
      (cond (ieq x.1.1 x.2.1)
        (some (ieq (n2i (xlen x.1.2)) (n2i (xlen x.2.2))))
        (some false))
      (some false)))

noncomputable def F_s_l20Ok (x : (List ((Int × (List Int)) × ((Int × (List Int)) × ((Int × (List Int)) × Int))))) : Option Bool :=
  (iter (σ := (Int × (List ((Int × (List Int)) × ((Int × (List Int)) × ((Int × (List Int)) × Int)))))) (fun s1 =>
    (cond (ilt s1.1 (n2i (xlen s1.2)))
      (chk (okIx s1.1 (xlen s1.2))
      (chk (okIx 0 (xlen s1.2))
      (Option.bind (F_s_l20Like ((xget s1.2 (i2n s1.1) ((0, ([] : (List Int))), ((0, ([] : (List Int))), ((0, ([] : (List Int))), 0)))).1, (xget s1.2 (i2n 0) ((0, ([] : (List Int))), ((0, ([] : (List Int))), ((0, ([] : (List Int))), 0)))).1)) fun r3 =>
        (cond (bnot r3)
          (some (.inr false))
          (chk (okIx 0 (xlen s1.2))
          (Option.bind (F_s_l20Like ((xget s1.2 (i2n s1.1) ((0, ([] : (List Int))), ((0, ([] : (List Int))), ((0, ([] : (List Int))), 0)))).2.1, (xget s1.2 (i2n 0) ((0, ([] : (List Int))), ((0, ([] : (List Int))), ((0, ([] : (List Int))), 0)))).1)) fun r5 =>
            (cond (bnot r5)
              (some (.inr false))
              (chk (okIx 0 (xlen s1.2))
              (Option.bind (F_s_l20Like ((xget s1.2 (i2n s1.1) ((0, ([] : (List Int))), ((0, ([] : (List Int))), ((0, ([] : (List Int))), 0)))).2.2.1, (xget s1.2 (i2n 0) ((0, ([] : (List Int))), ((0, ([] : (List Int))), ((0, ([] : (List Int))), 0)))).1)) fun r7 =>
                (cond (bnot r7)
                  (some (.inr false))
                  (Option.bind (F_s_l00In ((xget s1.2 (i2n s1.1) ((0, ([] : (List Int))), ((0, ([] : (List Int))), ((0, ([] : (List Int))), 0)))).2.2.2, (0, 1))) fun r9 =>
                    (cond (bnot r9)
                      (some (.inr false))
                      (some (.inl ((iadd .i64 s1.1 1), s1.2)))))))))))))))
      (Option.map Sum.inr
        (Option.bind (F_s_l00In ((n2i (xlen s1.2)), (1, 60))) fun r3 =>
        (some r3)))))
    (0, x))

noncomputable def F_s_ValidTrials (x : (List ((Int × (List Int)) × ((Int × (List Int)) × ((Int × (List Int)) × Int))))) : Option Bool :=
  (Option.bind (F_s_l20Ok x) fun r1 =>
    (some r1))

noncomputable def F_l_toInt64S (x : (List Int)) : Option (List Int) :=
  (chk (ieq (n2i (xlen x)) (n2i (xlen x)))
  (chk (okMake (n2i (xlen x)) 8)
  (iter (σ := (Int × ((List Int) × (List Int)))) (fun s1 =>
    (cond (ilt s1.1 (n2i (xlen s1.2.1)))
      (chk (okIx s1.1 (xlen s1.2.1))
      (chk (okIx s1.1 (xlen s1.2.2))
      (some (.inl ((iadd .i64 s1.1 1), (s1.2.1, (xset s1.2.2 (i2n s1.1) (xget s1.2.1 (i2n s1.1) 0))))))))
      (some (.inr s1.2.2))))
    (0, (x, (xrep (i2n (n2i (xlen x))) 0))))))

noncomputable def F_l_toRegister (x : (Int × (List Int))) : Option (Int × (List Int)) :=
  (Option.bind (F_l_toInt64S x.2) fun r1 =>
    (some (x.1, r1)))

noncomputable def F_l_toTrial (x : ((Int × (List Int)) × ((Int × (List Int)) × ((Int × (List Int)) × Int)))) : Option ((Int × (List Int)) × ((Int × (List Int)) × ((Int × (List Int)) × Int))) :=
  (Option.bind (F_l_toRegister x.1) fun r1 =>
    (Option.bind (F_l_toRegister x.2.1) fun r2 =>
      (Option.bind (F_l_toRegister x.2.2.1) fun r3 =>
        (some (r1, (r2, (r3, x.2.2.2)))))))

noncomputable def F_l_toTrialS (x : (List ((Int × (List Int)) × ((Int × (List Int)) × ((Int × (List Int)) × Int))))) : Option (List ((Int × (List Int)) × ((Int × (List Int)) × ((Int × (List Int)) × Int)))) :=
  (chk (ieq (n2i (xlen x)) (n2i (xlen x)))
  (chk (okMake (n2i (xlen x)) 104)
  (iter (σ := (Int × ((List ((Int × (List Int)) × ((Int × (List Int)) × ((Int × (List Int)) × Int)))) × (List ((Int × (List Int)) × ((Int × (List Int)) × ((Int × (List Int)) × Int))))))) (fun s1 =>
    (cond (ilt s1.1 (n2i (xlen s1.2.1)))
      (chk (okIx s1.1 (xlen s1.2.1))
      (Option.bind (F_l_toTrial ((xget s1.2.1 (i2n s1.1) ((0, ([] : (List Int))), ((0, ([] : (List Int))), ((0, ([] : (List Int))), 0)))).1, ((xget s1.2.1 (i2n s1.1) ((0, ([] : (List Int))), ((0, ([] : (List Int))), ((0, ([] : (List Int))), 0)))).2.1, ((xget s1.2.1 (i2n s1.1) ((0, ([] : (List Int))), ((0, ([] : (List Int))), ((0, ([] : (List Int))), 0)))).2.2.1, (xget s1.2.1 (i2n s1.1) ((0, ([] : (List Int))), ((0, ([] : (List Int))), ((0, ([] : (List Int))), 0)))).2.2.2)))) fun r3 =>
        (chk (okIx s1.1 (xlen s1.2.2))
        (some (.inl ((iadd .i64 s1.1 1), (s1.2.1, (xset s1.2.2 (i2n s1.1) (r3.1, (r3.2.1, (r3.2.2.1, r3.2.2.2)))))))))))
      (some (.inr s1.2.2))))
    (0, (x, (xrep (i2n (n2i (xlen x))) ((0, ([] : (List Int))), ((0, ([] : (List Int))), ((0, ([] : (List Int))), 0)))))))))

noncomputable def F_i_ValidTrials (x : (List ((Int × (List Int)) × ((Int × (List Int)) × ((Int × (List Int)) × Int))))) : Option Bool :=
  (iter (σ := (Int × (Int × (List ((Int × (List Int)) × ((Int × (List Int)) × ((Int × (List Int)) × Int))))))) (fun s1 =>
    (cond (ilt s1.2.1 s1.1)
      (chk (okIx s1.2.1 (xlen s1.2.2))
      (iter (σ := (Int × (Int × (Int × (Int × ((List ((Int × (List Int)) × ((Int × (List Int)) × ((Int × (List Int)) × Int)))) × (Int × (Int × (Int × (Int × ((List Int) × ((List Int) × ((List Int) × (List (Int × (List Int)))))))))))))))) (fun s3 =>
        (cond (ilt s3.2.2.2.1 s3.2.2.1)
          (chk (okIx s3.2.2.2.1 (xlen s3.2.2.2.2.2.2.2.2.2.2.2.2))
          (Option.bind (F_i_ValidRegister (xget s3.2.2.2.2.2.2.2.2.2.2.2.2 (i2n s3.2.2.2.1) (0, ([] : (List Int))))) fun r5 =>
            (cond (bnot r5)
              (some (.inr (.inr false)))
              (chk (okIx 0 (xlen s3.2.2.2.2.1))
              (cond (ine (xget s3.2.2.2.2.2.2.2.2.2.2.2.2 (i2n s3.2.2.2.1) (0, ([] : (List Int)))).1 (xget s3.2.2.2.2.1 (i2n 0) ((0, ([] : (List Int))), ((0, ([] : (List Int))), ((0, ([] : (List Int))), 0)))).1.1)
                (some (.inr (.inr false)))
                (Option.bind (F_i_Register_width (xget s3.2.2.2.2.2.2.2.2.2.2.2.2 (i2n s3.2.2.2.1) (0, ([] : (List Int))))) fun r8 =>
                  (chk (okIx 0 (xlen s3.2.2.2.2.1))
                  (Option.bind (F_i_Register_width (xget s3.2.2.2.2.1 (i2n 0) ((0, ([] : (List Int))), ((0, ([] : (List Int))), ((0, ([] : (List Int))), 0)))).1) fun r9 =>
                    (cond (ine r8 r9)
                      (some (.inr (.inr false)))
                      (some (.inl (s3.1, (s3.2.1, (s3.2.2.1, ((iadd .i64 s3.2.2.2.1 1), (s3.2.2.2.2.1, (s3.2.2.2.2.2.1, (s3.2.2.2.2.2.2.1, (s3.2.2.2.2.2.2.2.1, (s3.2.2.2.2.2.2.2.2.1, (s3.2.2.2.2.2.2.2.2.2.1, (s3.2.2.2.2.2.2.2.2.2.2.1, s3.2.2.2.2.2.2.2.2.2.2.2))))))))))))))))))))))
          (Option.map Sum.inr
            (Option.bind (F_i_between (s3.2.2.2.2.2.2.2.2.1, (0, 1))) fun r5 =>
            (cond (bnot r5)
              (some (.inr false))
              (some (.inl (s3.1, ((iadd .i64 s3.2.1 1), s3.2.2.2.2.1)))))))))
        (s1.1, (s1.2.1, ((n2i (xlen ((xget s1.2.2 (i2n s1.2.1) ((0, ([] : (List Int))), ((0, ([] : (List Int))), ((0, ([] : (List Int))), 0)))).1 :: ((xget s1.2.2 (i2n s1.2.1) ((0, ([] : (List Int))), ((0, ([] : (List Int))), ((0, ([] : (List Int))), 0)))).2.1 :: ((xget s1.2.2 (i2n s1.2.1) ((0, ([] : (List Int))), ((0, ([] : (List Int))), ((0, ([] : (List Int))), 0)))).2.2.1 :: ([] : (List (Int × (List Int))))))))), (0, (s1.2.2, ((xget s1.2.2 (i2n s1.2.1) ((0, ([] : (List Int))), ((0, ([] : (List Int))), ((0, ([] : (List Int))), 0)))).1.1, ((xget s1.2.2 (i2n s1.2.1) ((0, ([] : (List Int))), ((0, ([] : (List Int))), ((0, ([] : (List Int))), 0)))).2.1.1, ((xget s1.2.2 (i2n s1.2.1) ((0, ([] : (List Int))), ((0, ([] : (List Int))), ((0, ([] : (List Int))), 0)))).2.2.1.1, ((xget s1.2.2 (i2n s1.2.1) ((0, ([] : (List Int))), ((0, ([] : (List Int))), ((0, ([] : (List Int))), 0)))).2.2.2, ((xget s1.2.2 (i2n s1.2.1) ((0, ([] : (List Int))), ((0, ([] : (List Int))), ((0, ([] : (List Int))), 0)))).1.2, ((xget s1.2.2 (i2n s1.2.1) ((0, ([] : (List Int))), ((0, ([] : (List Int))), ((0, ([] : (List Int))), 0)))).2.1.2, ((xget s1.2.2 (i2n s1.2.1) ((0, ([] : (List Int))), ((0, ([] : (List Int))), ((0, ([] : (List Int))), 0)))).2.2.1.2, ((xget s1.2.2 (i2n s1.2.1) ((0, ([] : (List Int))), ((0, ([] : (List Int))), ((0, ([] : (List Int))), 0)))).1 :: ((xget s1.2.2 (i2n s1.2.1) ((0, ([] : (List Int))), ((0, ([] : (List Int))), ((0, ([] : (List Int))), 0)))).2.1 :: ((xget s1.2.2 (i2n s1.2.1) ((0, ([] : (List Int))), ((0, ([] : (List Int))), ((0, ([] : (List Int))), 0)))).2.2.1 :: ([] : (List (Int × (List Int)))))))))))))))))))))
      (Option.map Sum.inr
        (Option.bind (F_i_between ((n2i (xlen s1.2.2)), (1, 60))) fun r3 =>
        (some r3)))))
    ((n2i (xlen x)), (0, x)))

noncomputable def F_l_eqInt64S (x : ((List Int) × (List Int))) : Option Bool :=
  (cond (ine (n2i (xlen x.1)) (n2i (xlen x.2)))
    (some false)
    (iter (σ := (Int × ((List Int) × (List Int)))) (fun s2 =>
      (cond (ilt s2.1 (n2i (xlen s2.2.1)))
        (chk (okIx s2.1 (xlen s2.2.1))
        (chk (okIx s2.1 (xlen s2.2.2))
        (cond (ine (xget s2.2.1 (i2n s2.1) 0) (xget s2.2.2 (i2n s2.1) 0))
          (some (.inr false))
          (some (.inl ((iadd .i64 s2.1 1), s2.2))))))
        (some (.inr true))))
      (0, x)))

noncomputable def F_l_eqRegister (x : ((Int × (List Int)) × (Int × (List Int)))) : Option Bool :=
  (cond (ine x.1.1 x.2.1)
    (some false)
    (Option.bind (F_l_eqInt64S (x.1.2, x.2.2)) fun r2 =>
      (cond (bnot r2)
        (some false)
        (some true))))

noncomputable def F_l_eqTrial (x : (((Int × (List Int)) × ((Int × (List Int)) × ((Int × (List Int)) × Int))) × ((Int × (List Int)) × ((Int × (List Int)) × ((Int × (List Int)) × Int))))) : Option Bool :=
  (Option.bind (F_l_eqRegister (x.1.1, x.2.1)) fun r1 =>
    (cond (bnot r1)
      (some false)
      (Option.bind (F_l_eqRegister (x.1.2.1, x.2.2.1)) fun r3 =>
        (cond (bnot r3)
          (some false)
          (Option.bind (F_l_eqRegister (x.1.2.2.1, x.2.2.2.1)) fun r5 =>
            (cond (bnot r5)
              (some false)
              (cond (ine x.1.2.2.2 x.2.2.2.2)
                (some false)
                (some true))))))))

noncomputable def F_l_eqTrialS (x : ((List ((Int × (List Int)) × ((Int × (List Int)) × ((Int × (List Int)) × Int)))) × (List ((Int × (List Int)) × ((Int × (List Int)) × ((Int × (List Int)) × Int)))))) : Option Bool :=
  (cond (ine (n2i (xlen x.1)) (n2i (xlen x.2)))
    (some false)
    (iter (σ := (Int × ((List ((Int × (List Int)) × ((Int × (List Int)) × ((Int × (List Int)) × Int)))) × (List ((Int × (List Int)) × ((Int × (List Int)) × ((Int × (List Int)) × Int))))))) (fun s2 =>
      (cond (ilt s2.1 (n2i (xlen s2.2.1)))
        (chk (okIx s2.1 (xlen s2.2.1))
        (chk (okIx s2.1 (xlen s2.2.2))
        (Option.bind (F_l_eqTrial (((xget s2.2.1 (i2n s2.1) ((0, ([] : (List Int))), ((0, ([] : (List Int))), ((0, ([] : (List Int))), 0)))).1, ((xget s2.2.1 (i2n s2.1) ((0, ([] : (List Int))), ((0, ([] : (List Int))), ((0, ([] : (List Int))), 0)))).2.1, ((xget s2.2.1 (i2n s2.1) ((0, ([] : (List Int))), ((0, ([] : (List Int))), ((0, ([] : (List Int))), 0)))).2.2.1, (xget s2.2.1 (i2n s2.1) ((0, ([] : (List Int))), ((0, ([] : (List Int))), ((0, ([] : (List Int))), 0)))).2.2.2))), ((xget s2.2.2 (i2n s2.1) ((0, ([] : (List Int))), ((0, ([] : (List Int))), ((0, ([] : (List Int))), 0)))).1, ((xget s2.2.2 (i2n s2.1) ((0, ([] : (List Int))), ((0, ([] : (List Int))), ((0, ([] : (List Int))), 0)))).2.1, ((xget s2.2.2 (i2n s2.1) ((0, ([] : (List Int))), ((0, ([] : (List Int))), ((0, ([] : (List Int))), 0)))).2.2.1, (xget s2.2.2 (i2n s2.1) ((0, ([] : (List Int))), ((0, ([] : (List Int))), ((0, ([] : (List Int))), 0)))).2.2.2))))) fun r4 =>
          (cond (bnot r4)
            (some (.inr false))
            (some (.inl ((iadd .i64 s2.1 1), s2.2)))))))
        (some (.inr true))))
      (0, x)))

noncomputable def F_l_FnExactValidTrials (x : (List ((Int × (List Int)) × ((Int × (List Int)) × ((Int × (List Int)) × Int))))) : Option Bool :=
  (Option.bind (F_l_szTrialS (x, 1048576)) fun r1 =>
    (cond (ilt r1 0)
      (some true)
      (Option.bind (F_l_toTrialS x) fun r3 =>
        (Option.bind (F_s_ValidTrials r3) fun r4 =>
          (Option.bind (F_l_toTrialS x) fun r5 =>
            (Option.bind (F_i_ValidTrials r5) fun r6 =>
              (cond (bnev r6 r4)
                (some false)
                (Option.bind (F_l_toTrialS x) fun r8 =>
                  (Option.bind (F_l_eqTrialS (r5, r8)) fun r9 =>
                    (cond (bnot r9)
                      (some false)
                      (some true)))))))))))

noncomputable def F_s_l20Trial (x : (((Int × (List Int)) × ((Int × (List Int)) × ((Int × (List Int)) × Int))) × ((Int × (List Int)) × ((Int × (List Int)) × ((Int × (List Int)) × Int))))) : Option Bool :=
  (Option.bind (F_s_l02Same (x.1.1, x.2.1)) fun r1 =>
    (cond r1
      (Option.bind (F_s_l02Same (x.1.2.1, x.2.2.1)) fun r3 =>
        (cond r3
          (Option.bind (F_s_l02Same (x.1.2.2.1, x.2.2.2.1)) fun r5 =>
            (cond r5
              (some (ieq x.1.2.2.2 x.2.2.2.2))
              (some false)))
          (some false)))
      (some false)))

noncomputable def F_s_FirstDifference (x : ((List ((Int × (List Int)) × ((Int × (List Int)) × ((Int × (List Int)) × Int)))) × (List ((Int × (List Int)) × ((Int × (List Int)) × ((Int × (List Int)) × Int)))))) : Option (Int × Int) :=
  (Option.bind (F_s_l20Ok x.1) fun r1 =>
    (cond (bnot r1)
      (some (0, 1))
      (Option.bind (F_s_l20Ok x.2) fun r3 =>
        (cond (bnot r3)
          (some (0, 1))
          (iter (σ := (Int × ((List ((Int × (List Int)) × ((Int × (List Int)) × ((Int × (List Int)) × Int)))) × (List ((Int × (List Int)) × ((Int × (List Int)) × ((Int × (List Int)) × Int))))))) (fun s5 =>
            (cond (ilt s5.1 (n2i (xlen s5.2.1)))
              (cond (ilt s5.1 (n2i (xlen s5.2.2)))
                (chk (okIx s5.1 (xlen s5.2.1))
                (chk (okIx s5.1 (xlen s5.2.2))
                (Option.bind (F_s_l20Trial ((xget s5.2.1 (i2n s5.1) ((0, ([] : (List Int))), ((0, ([] : (List Int))), ((0, ([] : (List Int))), 0)))), (xget s5.2.2 (i2n s5.1) ((0, ([] : (List Int))), ((0, ([] : (List Int))), ((0, ([] : (List Int))), 0)))))) fun r8 =>
                  (cond r8
                    (some (.inl ((iadd .i64 s5.1 1), s5.2)))
                    (Option.map Sum.inr
                      (cond (ieq s5.1 (n2i (xlen s5.2.1)))
                      (cond (ieq s5.1 (n2i (xlen s5.2.2)))
                        (some (0, 3))
                        (some (s5.1, 0)))
                      (some (s5.1, 0))))))))
                (Option.map Sum.inr
                  (cond (ieq s5.1 (n2i (xlen s5.2.1)))
                  (cond (ieq s5.1 (n2i (xlen s5.2.2)))
                    (some (0, 3))
                    (some (s5.1, 0)))
                  (some (s5.1, 0)))))
              (Option.map Sum.inr
                (cond (ieq s5.1 (n2i (xlen s5.2.1)))
                (cond (ieq s5.1 (n2i (xlen s5.2.2)))
                  (some (0, 3))
                  (some (s5.1, 0)))
                (some (s5.1, 0))))))
            (0, x))))))

noncomputable def F_i_sameNumbers (x : ((List Int) × (List Int))) : Option Bool :=
  (cond (ine (n2i (xlen x.1)) (n2i (xlen x.2)))
    (some false)
    (iter (σ := (Int × (Int × ((List Int) × (List Int))))) (fun s2 =>
      (cond (ilt s2.2.1 s2.1)
        (chk (okIx s2.2.1 (xlen s2.2.2.1))
        (chk (okIx s2.2.1 (xlen s2.2.2.2))
        (cond (ine (xget s2.2.2.1 (i2n s2.2.1) 0) (xget s2.2.2.2 (i2n s2.2.1) 0))
          (some (.inr false))
          (some (.inl (s2.1, ((iadd .i64 s2.2.1 1), s2.2.2)))))))
        (some (.inr true))))
      ((n2i (xlen x.1)), (0, x))))

noncomputable def F_i_SameRegister (x : ((Int × (List Int)) × (Int × (List Int)))) : Option Bool :=
  (cond (ieq x.1.1 x.2.1)
    (Option.bind (F_i_sameNumbers (x.1.2, x.2.2)) fun r2 =>
      (some r2))
    (some false))

noncomputable def F_i_Trial_same (x : (((Int × (List Int)) × ((Int × (List Int)) × ((Int × (List Int)) × Int))) × ((Int × (List Int)) × ((Int × (List Int)) × ((Int × (List Int)) × Int))))) : Option Bool :=
  (Option.bind (F_i_SameRegister (x.1.1, x.2.1)) fun r1 =>
    (cond r1
      (Option.bind (F_i_SameRegister (x.1.2.1, x.2.2.1)) fun r3 =>
        (cond r3
          (Option.bind (F_i_SameRegister (x.1.2.2.1, x.2.2.2.1)) fun r5 =>
            (cond r5
              (some (ieq x.1.2.2.2 x.2.2.2.2))
              (some false)))
          (some false)))
      (some false)))

noncomputable def F_i_FirstDifference (x : ((List ((Int × (List Int)) × ((Int × (List Int)) × ((Int × (List Int)) × Int)))) × (List ((Int × (List Int)) × ((Int × (List Int)) × ((Int × (List Int)) × Int)))))) : Option (Int × Int) :=
  (Option.bind (F_i_ValidTrials x.1) fun r1 =>
    (cond (bnot r1)
      (some (0, 1))
      (Option.bind (F_i_ValidTrials x.2) fun r3 =>
        (cond (bnot r3)
          (some (0, 1))
          (iter (σ := (Int × (Int × ((List ((Int × (List Int)) × ((Int × (List Int)) × ((Int × (List Int)) × Int)))) × (List ((Int × (List Int)) × ((Int × (List Int)) × ((Int × (List Int)) × Int)))))))) (fun s5 =>
            (cond (ilt s5.2.1 s5.1)
              (chk (okIx s5.2.1 (xlen s5.2.2.1))
              (chk (okIx s5.2.1 (xlen s5.2.2.2))
              (Option.bind (F_i_Trial_same (((xget s5.2.2.1 (i2n s5.2.1) ((0, ([] : (List Int))), ((0, ([] : (List Int))), ((0, ([] : (List Int))), 0)))).1, ((xget s5.2.2.1 (i2n s5.2.1) ((0, ([] : (List Int))), ((0, ([] : (List Int))), ((0, ([] : (List Int))), 0)))).2.1, ((xget s5.2.2.1 (i2n s5.2.1) ((0, ([] : (List Int))), ((0, ([] : (List Int))), ((0, ([] : (List Int))), 0)))).2.2.1, (xget s5.2.2.1 (i2n s5.2.1) ((0, ([] : (List Int))), ((0, ([] : (List Int))), ((0, ([] : (List Int))), 0)))).2.2.2))), ((xget s5.2.2.2 (i2n s5.2.1) ((0, ([] : (List Int))), ((0, ([] : (List Int))), ((0, ([] : (List Int))), 0)))).1, ((xget s5.2.2.2 (i2n s5.2.1) ((0, ([] : (List Int))), ((0, ([] : (List Int))), ((0, ([] : (List Int))), 0)))).2.1, ((xget s5.2.2.2 (i2n s5.2.1) ((0, ([] : (List Int))), ((0, ([] : (List Int))), ((0, ([] : (List Int))), 0)))).2.2.1, (xget s5.2.2.2 (i2n s5.2.1) ((0, ([] : (List Int))), ((0, ([] : (List Int))), ((0, ([] : (List Int))), 0)))).2.2.2))))) fun r7 =>
                (cond (bnot r7)
                  (some (.inr (s5.2.1, 0)))
                  (some (.inl (s5.1, ((iadd .i64 s5.2.1 1), s5.2.2))))))))
              (Option.map Sum.inr
                (cond (ieq (n2i (xlen s5.2.2.1)) (n2i (xlen s5.2.2.2)))
                (some (0, 3))
                (some ((imin (n2i (xlen s5.2.2.1)) (n2i (xlen s5.2.2.2))), 0))))))
            ((imin (n2i (xlen x.1)) (n2i (xlen x.2))), (0, x)))))))

noncomputable def F_l_FnExactFirstDifference (x : ((List ((Int × (List Int)) × ((Int × (List Int)) × ((Int × (List Int)) × Int)))) × (List ((Int × (List Int)) × ((Int × (List Int)) × ((Int × (List Int)) × Int)))))) : Option Bool :=
  (Option.bind (F_l_szTrialS (x.1, 1048576)) fun r1 =>
    (cond (ilt r1 0)
      (some true)
      (Option.bind (F_l_szTrialS (x.2, r1)) fun r3 =>
        (cond (ilt r3 0)
          (some true)
          (Option.bind (F_l_toTrialS x.1) fun r5 =>
            (Option.bind (F_l_toTrialS x.2) fun r6 =>
              (Option.bind (F_s_FirstDifference (r5, r6)) fun r7 =>
                (Option.bind (F_l_toTrialS x.1) fun r8 =>
                  (Option.bind (F_l_toTrialS x.2) fun r9 =>
                    (Option.bind (F_i_FirstDifference (r8, r9)) fun r10 =>
                      (cond (ine r10.1 r7.1)
                        (some false)
                        (cond (ine r10.2 r7.2)
                          (some false)
                          (Option.bind (F_l_toTrialS x.1) fun r13 =>
                            (Option.bind (F_l_eqTrialS (r8, r13)) fun r14 =>
                              (cond (bnot r14)
                                (some false)
                                (Option.bind (F_l_toTrialS x.2) fun r16 =>
                                  (Option.bind (F_l_eqTrialS (r9, r16)) fun r17 =>
                                    (cond (bnot r17)
                                      (some false)
                                      (some true)))))))))))))))))))

noncomputable def F_l_szLeverFaultS (x : ((List (Int × Int)) × Int)) : Option Int :=
  (cond (ilt (isub .i64 x.2 (n2i (xlen x.1))) 0)
    (some (-1))
    (some (isub .i64 x.2 (n2i (xlen x.1)))))

noncomputable def F_s_l07Size (x : Int) : Option Bool :=
  (Option.bind (F_s_l00In (x, (1, 16))) fun r1 =>
    (some r1))

noncomputable def F_s_l08Ok (x : (Int × (List (Int × Int)))) : Option Bool :=
  (Option.bind (F_s_l07Size x.1) fun r1 =>
    (cond (bnot r1)
      (some false)
      (iter (σ := (Int × (Int × (List (Int × Int))))) (fun s3 =>
        (cond (ilt s3.2.1 (n2i (xlen s3.2.2)))
          (chk (okIx s3.2.1 (xlen s3.2.2))
          (Option.bind (F_s_l00In ((xget s3.2.2 (i2n s3.2.1) (0, 0)).1, (1, 3))) fun r5 =>
            (cond (bnot r5)
              (some (.inr false))
              (chk (okIx s3.2.1 (xlen s3.2.2))
              (Option.bind (F_s_l00In ((xget s3.2.2 (i2n s3.2.1) (0, 0)).2, (0, (isub .i64 s3.1 1)))) fun r7 =>
                (cond (bnot r7)
                  (some (.inr false))
                  (cond (igt s3.2.1 0)
                    (chk (okIx s3.2.1 (xlen s3.2.2))
                    (chk (okIx (isub .i64 s3.2.1 1) (xlen s3.2.2))
                    (cond (ile (xget s3.2.2 (i2n s3.2.1) (0, 0)).2 (xget s3.2.2 (i2n (isub .i64 s3.2.1 1)) (0, 0)).2)
                      (some (.inr false))
                      (some (.inl (s3.1, ((iadd .i64 s3.2.1 1), s3.2.2)))))))
                    (some (.inl (s3.1, ((iadd .i64 s3.2.1 1), s3.2.2)))))))))))
          (some (.inr true))))
        (x.1, (0, x.2)))))

noncomputable def F_s_l08Kinds (x : (Int × (List (Int × Int)))) : Option (List Int) :=
  (chk (ieq x.1 x.1)
  (chk (okMake x.1 8)
  (iter (σ := (Int × ((List (Int × Int)) × (List Int)))) (fun s1 =>
    (cond (ilt s1.1 (n2i (xlen s1.2.1)))
      (chk (okIx s1.1 (xlen s1.2.1))
      (chk (okIx s1.1 (xlen s1.2.1))
      (chk (okIx (xget s1.2.1 (i2n s1.1) (0, 0)).2 (xlen s1.2.2))
      (some (.inl ((iadd .i64 s1.1 1), (s1.2.1, (xset s1.2.2 (i2n (xget s1.2.1 (i2n s1.1) (0, 0)).2) (xget s1.2.1 (i2n s1.1) (0, 0)).1))))))))
      (some (.inr s1.2.2))))
    (0, (x.2, (xrep (i2n x.1) 0))))))

noncomputable def F_s_l08Carry (x : (Int × (Int × (Int × Int)))) : Option Int :=
  (cond (ige (iadd .i64 x.2.1 x.2.2.1) x.1)
    (cond (ieq x.2.2.2 1)
      (some 0)
      (cond (ieq x.2.2.2 3)
        (cond (ilt x.2.1 x.1)
          (some 0)
          (cond (ieq x.2.2.2 2)
            (some 1)
            (some 1)))
        (cond (ieq x.2.2.2 2)
          (some 1)
          (some 1))))
    (cond (ieq x.2.2.2 1)
      (some 0)
      (cond (ieq x.2.2.2 3)
        (cond (ilt x.2.1 x.1)
          (some 0)
          (cond (ieq x.2.2.2 2)
            (some 1)
            (some 0)))
        (cond (ieq x.2.2.2 2)
          (some 1)
          (some 0)))))

noncomputable def F_s_l08Add (x : ((Int × (List Int)) × ((Int × (List Int)) × (List (Int × Int))))) : Option ((Int × (List Int)) × Int) :=
  (Option.bind (F_s_l08Kinds ((n2i (xlen x.1.2)), x.2.2)) fun r1 =>
    (iter (σ := (Int × (Int × ((List (Int × (List Int))) × ((List (Int × (List Int))) × (Int × ((List Int) × ((List Int) × (Int × (List Int)))))))))) (fun s2 =>
      (cond (ilt s2.2.1 (n2i (xlen (xget s2.2.2.1 0 (0, ([] : (List Int)))).2)))
        (chk (okIx s2.2.1 (xlen (xget s2.2.2.1 0 (0, ([] : (List Int)))).2))
        (chk (okIx s2.2.1 (xlen (xget s2.2.2.2.1 0 (0, ([] : (List Int)))).2))
        (chk (okDiv (xget s2.2.2.1 0 (0, ([] : (List Int)))).1)
        (chk (okRoom (xlen s2.2.2.2.2.2.2.2.2) (xlen ((irem (iadd .i64 (iadd .i64 (xget (xget s2.2.2.1 0 (0, ([] : (List Int)))).2 (i2n s2.2.1) 0) (xget (xget s2.2.2.2.1 0 (0, ([] : (List Int)))).2 (i2n s2.2.1) 0)) s2.1) (xget s2.2.2.1 0 (0, ([] : (List Int)))).1) :: ([] : (List Int)))) 8)
        (chk (okIx s2.2.1 (xlen s2.2.2.2.2.2.2.1))
        (Option.bind (F_s_l08Carry ((xget s2.2.2.1 0 (0, ([] : (List Int)))).1, ((iadd .i64 (xget (xget s2.2.2.1 0 (0, ([] : (List Int)))).2 (i2n s2.2.1) 0) (xget (xget s2.2.2.2.1 0 (0, ([] : (List Int)))).2 (i2n s2.2.1) 0)), (s2.1, (xget s2.2.2.2.2.2.2.1 (i2n s2.2.1) 0))))) fun r4 =>
          (some (.inl (r4, ((iadd .i64 s2.2.1 1), (s2.2.2.1, (s2.2.2.2.1, (s2.2.2.2.2.1, (s2.2.2.2.2.2.1, (s2.2.2.2.2.2.2.1, (s2.2.2.2.2.2.2.2.1, (xapp s2.2.2.2.2.2.2.2.2 ((irem (iadd .i64 (iadd .i64 (xget (xget s2.2.2.1 0 (0, ([] : (List Int)))).2 (i2n s2.2.1) 0) (xget (xget s2.2.2.2.1 0 (0, ([] : (List Int)))).2 (i2n s2.2.1) 0)) s2.1) (xget s2.2.2.1 0 (0, ([] : (List Int)))).1) :: ([] : (List Int))))))))))))))))))))
        (some (.inr (s2.2.2.2.2.2.2.2, s2.1)))))
      (0, (0, ((x.1 :: ([] : (List (Int × (List Int))))), ((x.2.1 :: ([] : (List (Int × (List Int))))), (0, (([] : (List Int)), (r1, (x.1.1, ([] : (List Int))))))))))))

noncomputable def F_s_AddWithFaults (x : ((Int × (List Int)) × ((Int × (List Int)) × (List (Int × Int))))) : Option ((Int × (List Int)) × (Int × Int)) :=
  (Option.bind (F_s_l02Two (x.1, x.2.1)) fun r1 =>
    (cond (ieq r1 0)
      (Option.bind (F_s_l08Ok ((n2i (xlen x.1.2)), x.2.2)) fun r3 =>
        (cond (bnot r3)
          (cond (ine 8 0)
            (some ((0, ([] : (List Int))), (0, 8)))
            (Option.bind (F_s_l08Add (x.1, (x.2.1, x.2.2))) fun r6 =>
              (Option.bind (F_s_l02Ok r6.1) fun r7 =>
                (cond (bnot r7)
                  (some ((0, ([] : (List Int))), (0, 5)))
                  (some (r6.1, (r6.2, 0)))))))
          (cond (ine r1 0)
            (some ((0, ([] : (List Int))), (0, r1)))
            (Option.bind (F_s_l08Add (x.1, (x.2.1, x.2.2))) fun r6 =>
              (Option.bind (F_s_l02Ok r6.1) fun r7 =>
                (cond (bnot r7)
                  (some ((0, ([] : (List Int))), (0, 5)))
                  (some (r6.1, (r6.2, 0)))))))))
      (cond (ine r1 0)
        (some ((0, ([] : (List Int))), (0, r1)))
        (Option.bind (F_s_l08Add (x.1, (x.2.1, x.2.2))) fun r4 =>
          (Option.bind (F_s_l02Ok r4.1) fun r5 =>
            (cond (bnot r5)
              (some ((0, ([] : (List Int))), (0, 5)))
              (some (r4.1, (r4.2, 0)))))))))

noncomputable def F_l_toLeverFault (x : (Int × Int)) : Option (Int × Int) :=
  (some x)

noncomputable def F_l_toLeverFaultS (x : (List (Int × Int))) : Option (List (Int × Int)) :=
  (chk (ieq (n2i (xlen x)) (n2i (xlen x)))
  (chk (okMake (n2i (xlen x)) 16)
  (iter (σ := (Int × ((List (Int × Int)) × (List (Int × Int))))) (fun s1 =>
    (cond (ilt s1.1 (n2i (xlen s1.2.1)))
      (chk (okIx s1.1 (xlen s1.2.1))
      (Option.bind (F_l_toLeverFault (xget s1.2.1 (i2n s1.1) (0, 0))) fun r3 =>
        (chk (okIx s1.1 (xlen s1.2.2))
        (some (.inl ((iadd .i64 s1.1 1), (s1.2.1, (xset s1.2.2 (i2n s1.1) r3))))))))
      (some (.inr s1.2.2))))
    (0, (x, (xrep (i2n (n2i (xlen x))) (0, 0)))))))

noncomputable def F_i_isFault (x : (Int × (Int × Int))) : Option Bool :=
  (Option.bind (F_i_between (x.2.1, (1, 3))) fun r1 =>
    (cond r1
      (Option.bind (F_i_between (x.2.2, (0, (isub .i64 x.1 1)))) fun r3 =>
        (some r3))
      (some false)))

noncomputable def F_i_ValidFaults (x : (Int × (List (Int × Int)))) : Option Bool :=
  (iter (σ := (Int × (Int × (Int × (List (Int × Int)))))) (fun s1 =>
    (cond (ilt s1.2.2.1 s1.2.1)
      (chk (okIx s1.2.2.1 (xlen s1.2.2.2))
      (Option.bind (F_i_isFault (s1.1, (xget s1.2.2.2 (i2n s1.2.2.1) (0, 0)))) fun r3 =>
        (cond (bnot r3)
          (some (.inr false))
          (cond (igt s1.2.2.1 0)
            (chk (okIx (isub .i64 s1.2.2.1 1) (xlen s1.2.2.2))
            (cond (ile (xget s1.2.2.2 (i2n s1.2.2.1) (0, 0)).2 (xget s1.2.2.2 (i2n (isub .i64 s1.2.2.1 1)) (0, 0)).2)
              (some (.inr false))
              (some (.inl (s1.1, (s1.2.1, ((iadd .i64 s1.2.2.1 1), s1.2.2.2)))))))
            (some (.inl (s1.1, (s1.2.1, ((iadd .i64 s1.2.2.1 1), s1.2.2.2)))))))))
      (Option.map Sum.inr
        (Option.bind (F_i_isRegisterWidth s1.1) fun r3 =>
        (some r3)))))
    (x.1, ((n2i (xlen x.2)), (0, x.2))))

noncomputable def F_i_addedWith (x : ((Int × (List Int)) × ((Int × (List Int)) × (List (Int × Int))))) : Option ((Int × (List Int)) × Int) :=
  (iter (σ := (Int × (Int × (Int × ((List Int) × (Int × ((List Int) × (Int × ((List Int) × ((List (Int × Int)) × (List (Int × Int)))))))))))) (fun s1 =>
    (cond (ilt s1.2.1 s1.1)
      (chk (okIx s1.2.1 (xlen s1.2.2.2.2.2.2.2.2.2))
      (some (.inl (s1.1, ((iadd .i64 s1.2.1 1), (s1.2.2.1, (s1.2.2.2.1, (s1.2.2.2.2.1, (s1.2.2.2.2.2.1, (s1.2.2.2.2.2.2.1, (s1.2.2.2.2.2.2.2.1, ((mput s1.2.2.2.2.2.2.2.2.1 (xget s1.2.2.2.2.2.2.2.2.2 (i2n s1.2.1) (0, 0)).2 (xget s1.2.2.2.2.2.2.2.2.2 (i2n s1.2.1) (0, 0)).1), s1.2.2.2.2.2.2.2.2.2))))))))))))
      (Option.map Sum.inr
        (iter (σ := (Int × (Int × (Int × (Int × ((List Int) × (Int × ((List Int) × (Int × ((List Int) × ((List (Int × Int)) × (Int × (List Int))))))))))))) (fun s3 =>
        (cond (ilt s3.2.2.1 s3.2.1)
          (chk (okIx s3.2.2.1 (xlen s3.2.2.2.2.1))
          (chk (okIx s3.2.2.1 (xlen s3.2.2.2.2.2.2.1))
          (chk (okDiv s3.2.2.2.1)
          (chk (okRoom (xlen s3.2.2.2.2.2.2.2.2.2.2.2) (xlen ((irem (iadd .i64 (iadd .i64 (xget s3.2.2.2.2.1 (i2n s3.2.2.1) 0) (xget s3.2.2.2.2.2.2.1 (i2n s3.2.2.1) 0)) s3.1) s3.2.2.2.1) :: ([] : (List Int)))) 8)
          (chk (okDiv s3.2.2.2.1)
          (cond (ieq (mget s3.2.2.2.2.2.2.2.2.2.1 s3.2.2.1) 1)
            (some (.inl (0, (s3.2.1, ((iadd .i64 s3.2.2.1 1), (s3.2.2.2.1, (s3.2.2.2.2.1, (s3.2.2.2.2.2.1, (s3.2.2.2.2.2.2.1, (s3.2.2.2.2.2.2.2.1, (s3.2.2.2.2.2.2.2.2.1, (s3.2.2.2.2.2.2.2.2.2.1, (s3.2.2.2.2.2.2.2.2.2.2.1, (xapp s3.2.2.2.2.2.2.2.2.2.2.2 ((irem (iadd .i64 (iadd .i64 (xget s3.2.2.2.2.1 (i2n s3.2.2.1) 0) (xget s3.2.2.2.2.2.2.1 (i2n s3.2.2.1) 0)) s3.1) s3.2.2.2.1) :: ([] : (List Int)))))))))))))))))
            (cond (ieq (mget s3.2.2.2.2.2.2.2.2.2.1 s3.2.2.1) 2)
              (some (.inl (1, (s3.2.1, ((iadd .i64 s3.2.2.1 1), (s3.2.2.2.1, (s3.2.2.2.2.1, (s3.2.2.2.2.2.1, (s3.2.2.2.2.2.2.1, (s3.2.2.2.2.2.2.2.1, (s3.2.2.2.2.2.2.2.2.1, (s3.2.2.2.2.2.2.2.2.2.1, (s3.2.2.2.2.2.2.2.2.2.2.1, (xapp s3.2.2.2.2.2.2.2.2.2.2.2 ((irem (iadd .i64 (iadd .i64 (xget s3.2.2.2.2.1 (i2n s3.2.2.1) 0) (xget s3.2.2.2.2.2.2.1 (i2n s3.2.2.1) 0)) s3.1) s3.2.2.2.1) :: ([] : (List Int)))))))))))))))))
              (cond (ieq (mget s3.2.2.2.2.2.2.2.2.2.1 s3.2.2.1) 3)
                (chk (okDiv s3.2.2.2.1)
                (some (.inl ((iquo .i64 (iadd .i64 (xget s3.2.2.2.2.1 (i2n s3.2.2.1) 0) (xget s3.2.2.2.2.2.2.1 (i2n s3.2.2.1) 0)) s3.2.2.2.1), (s3.2.1, ((iadd .i64 s3.2.2.1 1), (s3.2.2.2.1, (s3.2.2.2.2.1, (s3.2.2.2.2.2.1, (s3.2.2.2.2.2.2.1, (s3.2.2.2.2.2.2.2.1, (s3.2.2.2.2.2.2.2.2.1, (s3.2.2.2.2.2.2.2.2.2.1, (s3.2.2.2.2.2.2.2.2.2.2.1, (xapp s3.2.2.2.2.2.2.2.2.2.2.2 ((irem (iadd .i64 (iadd .i64 (xget s3.2.2.2.2.1 (i2n s3.2.2.1) 0) (xget s3.2.2.2.2.2.2.1 (i2n s3.2.2.1) 0)) s3.1) s3.2.2.2.1) :: ([] : (List Int))))))))))))))))))
                (some (.inl ((iquo .i64 (iadd .i64 (iadd .i64 (xget s3.2.2.2.2.1 (i2n s3.2.2.1) 0) (xget s3.2.2.2.2.2.2.1 (i2n s3.2.2.1) 0)) s3.1) s3.2.2.2.1), (s3.2.1, ((iadd .i64 s3.2.2.1 1), (s3.2.2.2.1, (s3.2.2.2.2.1, (s3.2.2.2.2.2.1, (s3.2.2.2.2.2.2.1, (s3.2.2.2.2.2.2.2.1, (s3.2.2.2.2.2.2.2.2.1, (s3.2.2.2.2.2.2.2.2.2.1, (s3.2.2.2.2.2.2.2.2.2.2.1, (xapp s3.2.2.2.2.2.2.2.2.2.2.2 ((irem (iadd .i64 (iadd .i64 (xget s3.2.2.2.2.1 (i2n s3.2.2.1) 0) (xget s3.2.2.2.2.2.2.1 (i2n s3.2.2.1) 0)) s3.1) s3.2.2.2.1) :: ([] : (List Int)))))))))))))))))))))))))
          (some (.inr (s3.2.2.2.2.2.2.2.2.2.2, s3.1)))))
        (0, ((n2i (xlen s1.2.2.2.1)), (0, (s1.2.2.1, (s1.2.2.2.1, (s1.2.2.2.2.1, (s1.2.2.2.2.2.1, (s1.2.2.2.2.2.2.1, (s1.2.2.2.2.2.2.2.1, (s1.2.2.2.2.2.2.2.2.1, (s1.2.2.1, ([] : (List Int)))))))))))))))))
    ((n2i (xlen x.2.2)), (0, (x.1.1, (x.1.2, (x.2.1.1, (x.2.1.2, (0, (([] : (List Int)), (([] : (List (Int × Int))), x.2.2))))))))))

noncomputable def F_i_AddWithFaults (x : ((Int × (List Int)) × ((Int × (List Int)) × (List (Int × Int))))) : Option ((Int × (List Int)) × (Int × Int)) :=
  (Option.bind (F_i_pairCode (x.1, x.2.1)) fun r1 =>
    (cond (ine r1 0)
      (some ((0, ([] : (List Int))), (0, r1)))
      (Option.bind (F_i_Register_width x.1) fun r3 =>
        (Option.bind (F_i_ValidFaults (r3, x.2.2)) fun r4 =>
          (cond (bnot r4)
            (some ((0, ([] : (List Int))), (0, 8)))
            (Option.bind (F_i_addedWith (x.1, (x.2.1, x.2.2))) fun r6 =>
              (Option.bind (F_i_whole (r6.1, r6.2)) fun r7 =>
                (some (r7.1, r7.2)))))))))

noncomputable def F_l_eqLeverFault (x : ((Int × Int) × (Int × Int))) : Option Bool :=
  (cond (ine x.1.1 x.2.1)
    (some false)
    (cond (ine x.1.2 x.2.2)
      (some false)
      (some true)))

noncomputable def F_l_eqLeverFaultS (x : ((List (Int × Int)) × (List (Int × Int)))) : Option Bool :=
  (cond (ine (n2i (xlen x.1)) (n2i (xlen x.2)))
    (some false)
    (iter (σ := (Int × ((List (Int × Int)) × (List (Int × Int))))) (fun s2 =>
      (cond (ilt s2.1 (n2i (xlen s2.2.1)))
        (chk (okIx s2.1 (xlen s2.2.1))
        (chk (okIx s2.1 (xlen s2.2.2))
        (Option.bind (F_l_eqLeverFault ((xget s2.2.1 (i2n s2.1) (0, 0)), (xget s2.2.2 (i2n s2.1) (0, 0)))) fun r4 =>
          (cond (bnot r4)
            (some (.inr false))
            (some (.inl ((iadd .i64 s2.1 1), s2.2)))))))
        (some (.inr true))))
      (0, x)))

noncomputable def F_l_markInt64S (x : ((List Int) × Int)) : Option (Int × (List Int)) :=
  (iter (σ := (Int × (Int × (List Int)))) (fun s1 =>
    (cond (ilt s1.2.1 (n2i (xlen s1.2.2)))
      (chk (okIx s1.2.1 (xlen s1.2.2))
      (some (.inl ((iadd .i64 s1.1 1), ((iadd .i64 s1.2.1 1), (xset s1.2.2 (i2n s1.2.1) s1.1))))))
      (some (.inr (s1.1, s1.2.2)))))
    (x.2, (0, x.1)))

noncomputable def F_l_markRegister (x : ((Int × (List Int)) × Int)) : Option (Int × (Int × (List Int))) :=
  (Option.bind (F_l_markInt64S (x.1.2, x.2)) fun r1 =>
    (some (r1.1, (x.1.1, r1.2))))

noncomputable def F_l_markLeverFaultS (x : ((List (Int × Int)) × Int)) : Option (Int × (List (Int × Int))) :=
  (iter (σ := (Int × (Int × (List (Int × Int))))) (fun s1 =>
    (cond (ilt s1.2.1 (n2i (xlen s1.2.2)))
      (chk (okIx s1.2.1 (xlen s1.2.2))
      (chk (okIx s1.2.1 (xlen (xset s1.2.2 (i2n s1.2.1) (s1.1, (xget s1.2.2 (i2n s1.2.1) (0, 0)).2))))
      (some (.inl ((iadd .i64 (iadd .i64 s1.1 1) 1), ((iadd .i64 s1.2.1 1), (xset (xset s1.2.2 (i2n s1.2.1) (s1.1, (xget s1.2.2 (i2n s1.2.1) (0, 0)).2)) (i2n s1.2.1) ((xget (xset s1.2.2 (i2n s1.2.1) (s1.1, (xget s1.2.2 (i2n s1.2.1) (0, 0)).2)) (i2n s1.2.1) (0, 0)).1, (iadd .i64 s1.1 1)))))))))
      (some (.inr (s1.1, s1.2.2)))))
    (x.2, (0, x.1)))

noncomputable def F_l_heldInt64S (x : ((List Int) × Int)) : Option Int :=
  (iter (σ := (Int × (Int × (List Int)))) (fun s1 =>
    (cond (ilt s1.2.1 (n2i (xlen s1.2.2)))
      (chk (okIx s1.2.1 (xlen s1.2.2))
      (cond (ine (xget s1.2.2 (i2n s1.2.1) 0) s1.1)
        (some (.inr (-1)))
        (some (.inl ((iadd .i64 s1.1 1), ((iadd .i64 s1.2.1 1), s1.2.2))))))
      (some (.inr s1.1))))
    (x.2, (0, x.1)))

noncomputable def F_l_heldRegister (x : ((Int × (List Int)) × Int)) : Option Int :=
  (Option.bind (F_l_heldInt64S (x.1.2, x.2)) fun r1 =>
    (cond (ilt r1 0)
      (some (-1))
      (some r1)))

noncomputable def F_l_FnExactAddWithFaults (x : ((Int × (List Int)) × ((Int × (List Int)) × (List (Int × Int))))) : Option Bool :=
  (Option.bind (F_l_szRegister (x.1, 1048576)) fun r1 =>
    (cond (ilt r1 0)
      (some true)
      (Option.bind (F_l_szRegister (x.2.1, r1)) fun r3 =>
        (cond (ilt r3 0)
          (some true)
          (Option.bind (F_l_szLeverFaultS (x.2.2, r3)) fun r5 =>
            (cond (ilt r5 0)
              (some true)
              (Option.bind (F_l_toRegister x.1) fun r7 =>
                (Option.bind (F_l_toRegister x.2.1) fun r8 =>
                  (Option.bind (F_l_toLeverFaultS x.2.2) fun r9 =>
                    (Option.bind (F_s_AddWithFaults (r7, (r8, r9))) fun r10 =>
                      (Option.bind (F_l_toRegister x.1) fun r11 =>
                        (Option.bind (F_l_toRegister x.2.1) fun r12 =>
                          (Option.bind (F_l_toLeverFaultS x.2.2) fun r13 =>
                            (Option.bind (F_i_AddWithFaults (r11, (r12, r13))) fun r14 =>
                              (Option.bind (F_l_eqRegister (r14.1, r10.1)) fun r15 =>
                                (cond (bnot r15)
                                  (some false)
                                  (cond (ine r14.2.1 r10.2.1)
                                    (some false)
                                    (cond (ine r14.2.2 r10.2.2)
                                      (some false)
                                      (Option.bind (F_l_toRegister x.1) fun r19 =>
                                        (Option.bind (F_l_eqRegister (r11, r19)) fun r20 =>
                                          (cond (bnot r20)
                                            (some false)
                                            (Option.bind (F_l_toRegister x.2.1) fun r22 =>
                                              (Option.bind (F_l_eqRegister (r12, r22)) fun r23 =>
                                                (cond (bnot r23)
                                                  (some false)
                                                  (Option.bind (F_l_toLeverFaultS x.2.2) fun r25 =>
                                                    (Option.bind (F_l_eqLeverFaultS (r13, r25)) fun r26 =>
                                                      (cond (bnot r26)
                                                        (some false)
                                                        (Option.bind (F_l_markRegister (r11, 1)) fun r28 =>
                                                          (Option.bind (F_l_markRegister (r12, r28.1)) fun r29 =>
                                                            (Option.bind (F_l_markLeverFaultS (r13, r29.1)) fun r30 =>
                                                              (cond (ilt r30.1 0)
                                                                (some false)
                                                                (Option.bind (F_l_eqRegister (r14.1, r10.1)) fun r32 =>
                                                                  (cond (bnot r32)
                                                                    (some false)
                                                                    (cond (ine r14.2.1 r10.2.1)
                                                                      (some false)
                                                                      (cond (ine r14.2.2 r10.2.2)
                                                                        (some false)
                                                                        (Option.bind (F_l_markRegister (r14.1, 1)) fun r36 =>
                                                                          (Option.bind (F_l_heldRegister ((r14.1.1, r36.2.2), 1)) fun r37 =>
                                                                            (cond (ilt r37 0)
                                                                              (some false)
                                                                              (cond (ine r37 r36.1)
                                                                                (some false)
                                                                                (Option.bind (F_l_toRegister x.1) fun r40 =>
                                                                                  (Option.bind (F_l_toRegister x.2.1) fun r41 =>
                                                                                    (Option.bind (F_l_toLeverFaultS x.2.2) fun r42 =>
                                                                                      (Option.bind (F_i_AddWithFaults (r40, (r41, r42))) fun r43 =>
                                                                                        (Option.bind (F_l_eqRegister (r43.1, r10.1)) fun r44 =>
                                                                                          (cond (bnot r44)
                                                                                            (some false)
                                                                                            (cond (ine r43.2.1 r10.2.1)
                                                                                              (some false)
                                                                                              (cond (ine r43.2.2 r10.2.2)
                                                                                                (some false)
                                                                                                (Option.bind (F_l_heldRegister ((r14.1.1, r36.2.2), 1)) fun r48 =>
                                                                                                  (cond (ilt r48 0)
                                                                                                    (some false)
                                                                                                    (cond (ine r48 r36.1)
                                                                                                      (some false)
                                                                                                      (some true)))))))))))))))))))))))))))))))))))))))))))))))))))

noncomputable def F_l_szAddRowS (x : ((List (Int × (Int × (Int × (Int × Int))))) × Int)) : Option Int :=
  (cond (ilt (isub .i64 x.2 (n2i (xlen x.1))) 0)
    (some (-1))
    (some (isub .i64 x.2 (n2i (xlen x.1)))))

noncomputable def F_s_AddByTable (x : ((List (Int × (Int × (Int × (Int × Int))))) × ((Int × (List Int)) × (Int × (List Int))))) : Option ((Int × (List Int)) × (Int × Int)) :=
  (Option.bind (F_s_l02Two (x.2.1, x.2.2)) fun r1 =>
    (cond (ieq r1 0)
      (Option.bind (F_s_l08Form (x.2.1.1, x.1)) fun r3 =>
        (cond (bnot r3)
          (cond (ine 8 0)
            (some ((0, ([] : (List Int))), (0, 8)))
            (iter (σ := (Int × (Int × ((List (Int × (Int × (Int × (Int × Int))))) × (Int × ((List Int) × (Int × ((List Int) × (Int × ((List Int) × (Int × (List Int)))))))))))) (fun s6 =>
              (cond (ilt s6.2.1 (n2i (xlen s6.2.2.2.2.1)))
                (chk (okIx s6.2.1 (xlen s6.2.2.2.2.1))
                (chk (okIx s6.2.1 (xlen s6.2.2.2.2.2.2.1))
                (chk (okIx (iadd .i64 (imul .i64 (iadd .i64 (imul .i64 s6.1 s6.2.2.2.1) (xget s6.2.2.2.2.1 (i2n s6.2.1) 0)) s6.2.2.2.1) (xget s6.2.2.2.2.2.2.1 (i2n s6.2.1) 0)) (xlen s6.2.2.1))
                (chk (okRoom (xlen s6.2.2.2.2.2.2.2.2.2.2) (xlen ((xget s6.2.2.1 (i2n (iadd .i64 (imul .i64 (iadd .i64 (imul .i64 s6.1 s6.2.2.2.1) (xget s6.2.2.2.2.1 (i2n s6.2.1) 0)) s6.2.2.2.1) (xget s6.2.2.2.2.2.2.1 (i2n s6.2.1) 0))) (0, (0, (0, (0, 0))))).2.2.2.1 :: ([] : (List Int)))) 8)
                (some (.inl ((xget s6.2.2.1 (i2n (iadd .i64 (imul .i64 (iadd .i64 (imul .i64 s6.1 s6.2.2.2.1) (xget s6.2.2.2.2.1 (i2n s6.2.1) 0)) s6.2.2.2.1) (xget s6.2.2.2.2.2.2.1 (i2n s6.2.1) 0))) (0, (0, (0, (0, 0))))).2.2.2.2, ((iadd .i64 s6.2.1 1), (s6.2.2.1, (s6.2.2.2.1, (s6.2.2.2.2.1, (s6.2.2.2.2.2.1, (s6.2.2.2.2.2.2.1, (s6.2.2.2.2.2.2.2.1, (s6.2.2.2.2.2.2.2.2.1, (s6.2.2.2.2.2.2.2.2.2.1, (xapp s6.2.2.2.2.2.2.2.2.2.2 ((xget s6.2.2.1 (i2n (iadd .i64 (imul .i64 (iadd .i64 (imul .i64 s6.1 s6.2.2.2.1) (xget s6.2.2.2.2.1 (i2n s6.2.1) 0)) s6.2.2.2.1) (xget s6.2.2.2.2.2.2.1 (i2n s6.2.1) 0))) (0, (0, (0, (0, 0))))).2.2.2.1 :: ([] : (List Int))))))))))))))))))))
                (Option.map Sum.inr
                  (Option.bind (F_s_l02Ok s6.2.2.2.2.2.2.2.2.2) fun r8 =>
                  (cond (bnot r8)
                    (some ((0, ([] : (List Int))), (0, 5)))
                    (some (s6.2.2.2.2.2.2.2.2.2, (s6.1, 0))))))))
              (0, (0, (x.1, (x.2.1.1, (x.2.1.2, (x.2.2.1, (x.2.2.2, (0, (([] : (List Int)), (x.2.1.1, ([] : (List Int))))))))))))))
          (cond (ine r1 0)
            (some ((0, ([] : (List Int))), (0, r1)))
            (iter (σ := (Int × (Int × ((List (Int × (Int × (Int × (Int × Int))))) × (Int × ((List Int) × (Int × ((List Int) × (Int × ((List Int) × (Int × (List Int)))))))))))) (fun s6 =>
              (cond (ilt s6.2.1 (n2i (xlen s6.2.2.2.2.1)))
                (chk (okIx s6.2.1 (xlen s6.2.2.2.2.1))
                (chk (okIx s6.2.1 (xlen s6.2.2.2.2.2.2.1))
                (chk (okIx (iadd .i64 (imul .i64 (iadd .i64 (imul .i64 s6.1 s6.2.2.2.1) (xget s6.2.2.2.2.1 (i2n s6.2.1) 0)) s6.2.2.2.1) (xget s6.2.2.2.2.2.2.1 (i2n s6.2.1) 0)) (xlen s6.2.2.1))
                (chk (okRoom (xlen s6.2.2.2.2.2.2.2.2.2.2) (xlen ((xget s6.2.2.1 (i2n (iadd .i64 (imul .i64 (iadd .i64 (imul .i64 s6.1 s6.2.2.2.1) (xget s6.2.2.2.2.1 (i2n s6.2.1) 0)) s6.2.2.2.1) (xget s6.2.2.2.2.2.2.1 (i2n s6.2.1) 0))) (0, (0, (0, (0, 0))))).2.2.2.1 :: ([] : (List Int)))) 8)
                (some (.inl ((xget s6.2.2.1 (i2n (iadd .i64 (imul .i64 (iadd .i64 (imul .i64 s6.1 s6.2.2.2.1) (xget s6.2.2.2.2.1 (i2n s6.2.1) 0)) s6.2.2.2.1) (xget s6.2.2.2.2.2.2.1 (i2n s6.2.1) 0))) (0, (0, (0, (0, 0))))).2.2.2.2, ((iadd .i64 s6.2.1 1), (s6.2.2.1, (s6.2.2.2.1, (s6.2.2.2.2.1, (s6.2.2.2.2.2.1, (s6.2.2.2.2.2.2.1, (s6.2.2.2.2.2.2.2.1, (s6.2.2.2.2.2.2.2.2.1, (s6.2.2.2.2.2.2.2.2.2.1, (xapp s6.2.2.2.2.2.2.2.2.2.2 ((xget s6.2.2.1 (i2n (iadd .i64 (imul .i64 (iadd .i64 (imul .i64 s6.1 s6.2.2.2.1) (xget s6.2.2.2.2.1 (i2n s6.2.1) 0)) s6.2.2.2.1) (xget s6.2.2.2.2.2.2.1 (i2n s6.2.1) 0))) (0, (0, (0, (0, 0))))).2.2.2.1 :: ([] : (List Int))))))))))))))))))))
                (Option.map Sum.inr
                  (Option.bind (F_s_l02Ok s6.2.2.2.2.2.2.2.2.2) fun r8 =>
                  (cond (bnot r8)
                    (some ((0, ([] : (List Int))), (0, 5)))
                    (some (s6.2.2.2.2.2.2.2.2.2, (s6.1, 0))))))))
              (0, (0, (x.1, (x.2.1.1, (x.2.1.2, (x.2.2.1, (x.2.2.2, (0, (([] : (List Int)), (x.2.1.1, ([] : (List Int))))))))))))))))
      (cond (ine r1 0)
        (some ((0, ([] : (List Int))), (0, r1)))
        (iter (σ := (Int × (Int × ((List (Int × (Int × (Int × (Int × Int))))) × (Int × ((List Int) × (Int × ((List Int) × (Int × ((List Int) × (Int × (List Int)))))))))))) (fun s4 =>
          (cond (ilt s4.2.1 (n2i (xlen s4.2.2.2.2.1)))
            (chk (okIx s4.2.1 (xlen s4.2.2.2.2.1))
            (chk (okIx s4.2.1 (xlen s4.2.2.2.2.2.2.1))
            (chk (okIx (iadd .i64 (imul .i64 (iadd .i64 (imul .i64 s4.1 s4.2.2.2.1) (xget s4.2.2.2.2.1 (i2n s4.2.1) 0)) s4.2.2.2.1) (xget s4.2.2.2.2.2.2.1 (i2n s4.2.1) 0)) (xlen s4.2.2.1))
            (chk (okRoom (xlen s4.2.2.2.2.2.2.2.2.2.2) (xlen ((xget s4.2.2.1 (i2n (iadd .i64 (imul .i64 (iadd .i64 (imul .i64 s4.1 s4.2.2.2.1) (xget s4.2.2.2.2.1 (i2n s4.2.1) 0)) s4.2.2.2.1) (xget s4.2.2.2.2.2.2.1 (i2n s4.2.1) 0))) (0, (0, (0, (0, 0))))).2.2.2.1 :: ([] : (List Int)))) 8)
            (some (.inl ((xget s4.2.2.1 (i2n (iadd .i64 (imul .i64 (iadd .i64 (imul .i64 s4.1 s4.2.2.2.1) (xget s4.2.2.2.2.1 (i2n s4.2.1) 0)) s4.2.2.2.1) (xget s4.2.2.2.2.2.2.1 (i2n s4.2.1) 0))) (0, (0, (0, (0, 0))))).2.2.2.2, ((iadd .i64 s4.2.1 1), (s4.2.2.1, (s4.2.2.2.1, (s4.2.2.2.2.1, (s4.2.2.2.2.2.1, (s4.2.2.2.2.2.2.1, (s4.2.2.2.2.2.2.2.1, (s4.2.2.2.2.2.2.2.2.1, (s4.2.2.2.2.2.2.2.2.2.1, (xapp s4.2.2.2.2.2.2.2.2.2.2 ((xget s4.2.2.1 (i2n (iadd .i64 (imul .i64 (iadd .i64 (imul .i64 s4.1 s4.2.2.2.1) (xget s4.2.2.2.2.1 (i2n s4.2.1) 0)) s4.2.2.2.1) (xget s4.2.2.2.2.2.2.1 (i2n s4.2.1) 0))) (0, (0, (0, (0, 0))))).2.2.2.1 :: ([] : (List Int))))))))))))))))))))
            (Option.map Sum.inr
              (Option.bind (F_s_l02Ok s4.2.2.2.2.2.2.2.2.2) fun r6 =>
              (cond (bnot r6)
                (some ((0, ([] : (List Int))), (0, 5)))
                (some (s4.2.2.2.2.2.2.2.2.2, (s4.1, 0))))))))
          (0, (0, (x.1, (x.2.1.1, (x.2.1.2, (x.2.2.1, (x.2.2.2, (0, (([] : (List Int)), (x.2.1.1, ([] : (List Int))))))))))))))))

noncomputable def F_l_toAddRow (x : (Int × (Int × (Int × (Int × Int))))) : Option (Int × (Int × (Int × (Int × Int)))) :=
  (some (x.1, (x.2.1, (x.2.2.1, x.2.2.2))))

noncomputable def F_l_toAddRowS (x : (List (Int × (Int × (Int × (Int × Int)))))) : Option (List (Int × (Int × (Int × (Int × Int))))) :=
  (chk (ieq (n2i (xlen x)) (n2i (xlen x)))
  (chk (okMake (n2i (xlen x)) 40)
  (iter (σ := (Int × ((List (Int × (Int × (Int × (Int × Int))))) × (List (Int × (Int × (Int × (Int × Int)))))))) (fun s1 =>
    (cond (ilt s1.1 (n2i (xlen s1.2.1)))
      (chk (okIx s1.1 (xlen s1.2.1))
      (Option.bind (F_l_toAddRow ((xget s1.2.1 (i2n s1.1) (0, (0, (0, (0, 0))))).1, ((xget s1.2.1 (i2n s1.1) (0, (0, (0, (0, 0))))).2.1, ((xget s1.2.1 (i2n s1.1) (0, (0, (0, (0, 0))))).2.2.1, (xget s1.2.1 (i2n s1.1) (0, (0, (0, (0, 0))))).2.2.2)))) fun r3 =>
        (chk (okIx s1.1 (xlen s1.2.2))
        (some (.inl ((iadd .i64 s1.1 1), (s1.2.1, (xset s1.2.2 (i2n s1.1) (r3.1, (r3.2.1, (r3.2.2.1, r3.2.2.2)))))))))))
      (some (.inr s1.2.2))))
    (0, (x, (xrep (i2n (n2i (xlen x))) (0, (0, (0, (0, 0))))))))))

noncomputable def F_l_eqAddRow (x : ((Int × (Int × (Int × (Int × Int)))) × (Int × (Int × (Int × (Int × Int)))))) : Option Bool :=
  (cond (ine x.1.1 x.2.1)
    (some false)
    (cond (ine x.1.2.1 x.2.2.1)
      (some false)
      (cond (ine x.1.2.2.1 x.2.2.2.1)
        (some false)
        (cond (ine x.1.2.2.2.1 x.2.2.2.2.1)
          (some false)
          (cond (ine x.1.2.2.2.2 x.2.2.2.2.2)
            (some false)
            (some true))))))

noncomputable def F_l_eqAddRowS (x : ((List (Int × (Int × (Int × (Int × Int))))) × (List (Int × (Int × (Int × (Int × Int))))))) : Option Bool :=
  (cond (ine (n2i (xlen x.1)) (n2i (xlen x.2)))
    (some false)
    (iter (σ := (Int × ((List (Int × (Int × (Int × (Int × Int))))) × (List (Int × (Int × (Int × (Int × Int)))))))) (fun s2 =>
      (cond (ilt s2.1 (n2i (xlen s2.2.1)))
        (chk (okIx s2.1 (xlen s2.2.1))
        (chk (okIx s2.1 (xlen s2.2.2))
        (Option.bind (F_l_eqAddRow (((xget s2.2.1 (i2n s2.1) (0, (0, (0, (0, 0))))).1, ((xget s2.2.1 (i2n s2.1) (0, (0, (0, (0, 0))))).2.1, ((xget s2.2.1 (i2n s2.1) (0, (0, (0, (0, 0))))).2.2.1, (xget s2.2.1 (i2n s2.1) (0, (0, (0, (0, 0))))).2.2.2))), ((xget s2.2.2 (i2n s2.1) (0, (0, (0, (0, 0))))).1, ((xget s2.2.2 (i2n s2.1) (0, (0, (0, (0, 0))))).2.1, ((xget s2.2.2 (i2n s2.1) (0, (0, (0, (0, 0))))).2.2.1, (xget s2.2.2 (i2n s2.1) (0, (0, (0, (0, 0))))).2.2.2))))) fun r4 =>
          (cond (bnot r4)
            (some (.inr false))
            (some (.inl ((iadd .i64 s2.1 1), s2.2)))))))
        (some (.inr true))))
      (0, x)))

noncomputable def F_l_markAddRowS (x : ((List (Int × (Int × (Int × (Int × Int))))) × Int)) : Option (Int × (List (Int × (Int × (Int × (Int × Int)))))) :=
  (iter (σ := (Int × (Int × (List (Int × (Int × (Int × (Int × Int)))))))) (fun s1 =>
    (cond (ilt s1.2.1 (n2i (xlen s1.2.2)))
      (chk (okIx s1.2.1 (xlen s1.2.2))
      (share s1.2.2 fun q3 =>
        (share (xset q3 (i2n s1.2.1) (s1.1, (xget q3 (i2n s1.2.1) (0, (0, (0, (0, 0))))).2)) fun q4 =>
          (chk (okIx s1.2.1 (xlen q4))
          (share q4 fun q5 =>
            (share (xset q5 (i2n s1.2.1) ((xget q5 (i2n s1.2.1) (0, (0, (0, (0, 0))))).1, ((iadd .i64 s1.1 1), (xget q5 (i2n s1.2.1) (0, (0, (0, (0, 0))))).2.2))) fun q6 =>
              (chk (okIx s1.2.1 (xlen q6))
              (share q6 fun q7 =>
                (share (xset q7 (i2n s1.2.1) ((xget q7 (i2n s1.2.1) (0, (0, (0, (0, 0))))).1, ((xget q7 (i2n s1.2.1) (0, (0, (0, (0, 0))))).2.1, ((iadd .i64 (iadd .i64 s1.1 1) 1), (xget q7 (i2n s1.2.1) (0, (0, (0, (0, 0))))).2.2.2)))) fun q8 =>
                  (chk (okIx s1.2.1 (xlen q8))
                  (share q8 fun q9 =>
                    (share (xset q9 (i2n s1.2.1) ((xget q9 (i2n s1.2.1) (0, (0, (0, (0, 0))))).1, ((xget q9 (i2n s1.2.1) (0, (0, (0, (0, 0))))).2.1, ((xget q9 (i2n s1.2.1) (0, (0, (0, (0, 0))))).2.2.1, ((iadd .i64 (iadd .i64 (iadd .i64 s1.1 1) 1) 1), (xget q9 (i2n s1.2.1) (0, (0, (0, (0, 0))))).2.2.2.2))))) fun q10 =>
                      (chk (okIx s1.2.1 (xlen q10))
                      (share q10 fun q11 =>
                        (share (xset q11 (i2n s1.2.1) ((xget q11 (i2n s1.2.1) (0, (0, (0, (0, 0))))).1, ((xget q11 (i2n s1.2.1) (0, (0, (0, (0, 0))))).2.1, ((xget q11 (i2n s1.2.1) (0, (0, (0, (0, 0))))).2.2.1, ((xget q11 (i2n s1.2.1) (0, (0, (0, (0, 0))))).2.2.2.1, (iadd .i64 (iadd .i64 (iadd .i64 (iadd .i64 s1.1 1) 1) 1) 1)))))) fun q12 =>
                          (some (.inl ((iadd .i64 (iadd .i64 (iadd .i64 (iadd .i64 (iadd .i64 s1.1 1) 1) 1) 1) 1), ((iadd .i64 s1.2.1 1), q12)))))))))))))))))))
      (some (.inr (s1.1, s1.2.2)))))
    (x.2, (0, x.1)))

noncomputable def F_l_FnExactAddByTable (x : ((List (Int × (Int × (Int × (Int × Int))))) × ((Int × (List Int)) × (Int × (List Int))))) : Option Bool :=
  (Option.bind (F_l_szAddRowS (x.1, 1048576)) fun r1 =>
    (cond (ilt r1 0)
      (some true)
      (Option.bind (F_l_szRegister (x.2.1, r1)) fun r3 =>
        (cond (ilt r3 0)
          (some true)
          (Option.bind (F_l_szRegister (x.2.2, r3)) fun r5 =>
            (cond (ilt r5 0)
              (some true)
              (Option.bind (F_l_toAddRowS x.1) fun r7 =>
                (Option.bind (F_l_toRegister x.2.1) fun r8 =>
                  (Option.bind (F_l_toRegister x.2.2) fun r9 =>
                    (Option.bind (F_s_AddByTable (r7, (r8, r9))) fun r10 =>
                      (Option.bind (F_l_toAddRowS x.1) fun r11 =>
                        (Option.bind (F_l_toRegister x.2.1) fun r12 =>
                          (Option.bind (F_l_toRegister x.2.2) fun r13 =>
                            (Option.bind (F_i_AddByTable (r11, (r12, r13))) fun r14 =>
                              (Option.bind (F_l_eqRegister (r14.1, r10.1)) fun r15 =>
                                (cond (bnot r15)
                                  (some false)
                                  (cond (ine r14.2.1 r10.2.1)
                                    (some false)
                                    (cond (ine r14.2.2 r10.2.2)
                                      (some false)
                                      (Option.bind (F_l_toAddRowS x.1) fun r19 =>
                                        (Option.bind (F_l_eqAddRowS (r11, r19)) fun r20 =>
                                          (cond (bnot r20)
                                            (some false)
                                            (Option.bind (F_l_toRegister x.2.1) fun r22 =>
                                              (Option.bind (F_l_eqRegister (r12, r22)) fun r23 =>
                                                (cond (bnot r23)
                                                  (some false)
                                                  (Option.bind (F_l_toRegister x.2.2) fun r25 =>
                                                    (Option.bind (F_l_eqRegister (r13, r25)) fun r26 =>
                                                      (cond (bnot r26)
                                                        (some false)
                                                        (Option.bind (F_l_markAddRowS (r11, 1)) fun r28 =>
                                                          (Option.bind (F_l_markRegister (r12, r28.1)) fun r29 =>
                                                            (Option.bind (F_l_markRegister (r13, r29.1)) fun r30 =>
                                                              (cond (ilt r30.1 0)
                                                                (some false)
                                                                (Option.bind (F_l_eqRegister (r14.1, r10.1)) fun r32 =>
                                                                  (cond (bnot r32)
                                                                    (some false)
                                                                    (cond (ine r14.2.1 r10.2.1)
                                                                      (some false)
                                                                      (cond (ine r14.2.2 r10.2.2)
                                                                        (some false)
                                                                        (Option.bind (F_l_markRegister (r14.1, 1)) fun r36 =>
                                                                          (Option.bind (F_l_heldRegister ((r14.1.1, r36.2.2), 1)) fun r37 =>
                                                                            (cond (ilt r37 0)
                                                                              (some false)
                                                                              (cond (ine r37 r36.1)
                                                                                (some false)
                                                                                (Option.bind (F_l_toAddRowS x.1) fun r40 =>
                                                                                  (Option.bind (F_l_toRegister x.2.1) fun r41 =>
                                                                                    (Option.bind (F_l_toRegister x.2.2) fun r42 =>
                                                                                      (Option.bind (F_i_AddByTable (r40, (r41, r42))) fun r43 =>
                                                                                        (Option.bind (F_l_eqRegister (r43.1, r10.1)) fun r44 =>
                                                                                          (cond (bnot r44)
                                                                                            (some false)
                                                                                            (cond (ine r43.2.1 r10.2.1)
                                                                                              (some false)
                                                                                              (cond (ine r43.2.2 r10.2.2)
                                                                                                (some false)
                                                                                                (Option.bind (F_l_heldRegister ((r14.1.1, r36.2.2), 1)) fun r48 =>
                                                                                                  (cond (ilt r48 0)
                                                                                                    (some false)
                                                                                                    (cond (ine r48 r36.1)
                                                                                                      (some false)
                                                                                                      (some true)))))))))))))))))))))))))))))))))))))))))))))))))))

noncomputable def F_s_l08Shows (x : ((Int × (List Int)) × ((Int × (List Int)) × (List (Int × Int))))) : Option (Bool × Bool) :=
  (Option.bind (F_s_l08Add (x.1, x.2)) fun r1 =>
    (Option.bind (F_s_l02Add (x.1, x.2.1)) fun r2 =>
      (Option.bind (F_s_l02Same (r1.1, r2.1)) fun r3 =>
        (cond (bnot r3)
          (Option.bind (F_s_l02Ok r1.1) fun r5 =>
            (cond r5
              (Option.bind (F_s_l02Ok r2.1) fun r7 =>
                (some (true, r7)))
              (some (true, false))))
          (Option.bind (F_s_l02Ok r1.1) fun r5 =>
            (cond r5
              (Option.bind (F_s_l02Ok r2.1) fun r7 =>
                (some ((ine r1.2 r2.2), r7)))
              (some ((ine r1.2 r2.2), false))))))))

noncomputable def F_s_ShowsFaults (x : ((Int × (List Int)) × ((Int × (List Int)) × (List (Int × Int))))) : Option Bool :=
  (Option.bind (F_s_l02Two (x.1, x.2.1)) fun r1 =>
    (cond (ine r1 0)
      (some false)
      (Option.bind (F_s_l08Ok ((n2i (xlen x.1.2)), x.2.2)) fun r3 =>
        (cond (bnot r3)
          (some false)
          (Option.bind (F_s_l08Shows (x.1, (x.2.1, x.2.2))) fun r5 =>
            (cond r5.1
              (some r5.2)
              (some false)))))))

noncomputable def F_i_added (x : ((Int × (List Int)) × (Int × (List Int)))) : Option ((Int × (List Int)) × (List Int)) :=
  (iter (σ := (Int × (Int × (Int × ((List Int) × (Int × ((List Int) × (Int × ((List Int) × (Int × ((List Int) × (List Int)))))))))))) (fun s1 =>
    (cond (ilt s1.2.1 s1.1)
      (chk (okIx s1.2.1 (xlen s1.2.2.2.1))
      (chk (okIx s1.2.1 (xlen s1.2.2.2.2.2.1))
      (chk (okIx s1.2.1 (xlen s1.2.2.2.2.2.2.2.2.2.2))
      (chk (okDiv s1.2.2.1)
      (chk (okRoom (xlen s1.2.2.2.2.2.2.2.2.2.1) (xlen ((irem (iadd .i64 (iadd .i64 (xget s1.2.2.2.1 (i2n s1.2.1) 0) (xget s1.2.2.2.2.2.1 (i2n s1.2.1) 0)) (xget s1.2.2.2.2.2.2.2.2.2.2 (i2n s1.2.1) 0)) s1.2.2.1) :: ([] : (List Int)))) 8)
      (chk (okDiv s1.2.2.1)
      (chk (okRoom (xlen s1.2.2.2.2.2.2.2.2.2.2) (xlen ((iquo .i64 (iadd .i64 (iadd .i64 (xget s1.2.2.2.1 (i2n s1.2.1) 0) (xget s1.2.2.2.2.2.1 (i2n s1.2.1) 0)) (xget s1.2.2.2.2.2.2.2.2.2.2 (i2n s1.2.1) 0)) s1.2.2.1) :: ([] : (List Int)))) 8)
      (some (.inl (s1.1, ((iadd .i64 s1.2.1 1), (s1.2.2.1, (s1.2.2.2.1, (s1.2.2.2.2.1, (s1.2.2.2.2.2.1, (s1.2.2.2.2.2.2.1, (s1.2.2.2.2.2.2.2.1, (s1.2.2.2.2.2.2.2.2.1, ((xapp s1.2.2.2.2.2.2.2.2.2.1 ((irem (iadd .i64 (iadd .i64 (xget s1.2.2.2.1 (i2n s1.2.1) 0) (xget s1.2.2.2.2.2.1 (i2n s1.2.1) 0)) (xget s1.2.2.2.2.2.2.2.2.2.2 (i2n s1.2.1) 0)) s1.2.2.1) :: ([] : (List Int)))), (xapp s1.2.2.2.2.2.2.2.2.2.2 ((iquo .i64 (iadd .i64 (iadd .i64 (xget s1.2.2.2.1 (i2n s1.2.1) 0) (xget s1.2.2.2.2.2.1 (i2n s1.2.1) 0)) (xget s1.2.2.2.2.2.2.2.2.2.2 (i2n s1.2.1) 0)) s1.2.2.1) :: ([] : (List Int)))))))))))))))))))))))
      (some (.inr ((s1.2.2.2.2.2.2.2.2.1, s1.2.2.2.2.2.2.2.2.2.1), s1.2.2.2.2.2.2.2.2.2.2)))))
    ((n2i (xlen x.1.2)), (0, (x.1.1, (x.1.2, (x.2.1, (x.2.2, (0, (([] : (List Int)), (x.1.1, (([] : (List Int)), (0 :: ([] : (List Int))))))))))))))

noncomputable def F_i_AddRegisters (x : ((Int × (List Int)) × (Int × (List Int)))) : Option ((Int × (List Int)) × (Int × Int)) :=
  (Option.bind (F_i_pairCode (x.1, x.2)) fun r1 =>
    (cond (ine r1 0)
      (some ((0, ([] : (List Int))), (0, r1)))
      (Option.bind (F_i_added (x.1, x.2)) fun r3 =>
        (Option.bind (F_i_Register_width x.1) fun r4 =>
          (chk (okIx r4 (xlen r3.2))
          (Option.bind (F_i_whole (r3.1, (xget r3.2 (i2n r4) 0))) fun r5 =>
            (some (r5.1, r5.2))))))))

noncomputable def F_i_ShowsFaults (x : ((Int × (List Int)) × ((Int × (List Int)) × (List (Int × Int))))) : Option Bool :=
  (Option.bind (F_i_AddWithFaults (x.1, (x.2.1, x.2.2))) fun r1 =>
    (Option.bind (F_i_AddRegisters (x.1, x.2.1)) fun r2 =>
      (cond (ieq r1.2.2 0)
        (cond (ieq r2.2.2 0)
          (Option.bind (F_i_SameRegister (r1.1, r2.1)) fun r5 =>
            (cond (bnot r5)
              (some true)
              (some (ine r1.2.1 r2.2.1))))
          (some false))
        (some false))))

noncomputable def F_l_FnExactShowsFaults (x : ((Int × (List Int)) × ((Int × (List Int)) × (List (Int × Int))))) : Option Bool :=
  (Option.bind (F_l_szRegister (x.1, 1048576)) fun r1 =>
    (cond (ilt r1 0)
      (some true)
      (Option.bind (F_l_szRegister (x.2.1, r1)) fun r3 =>
        (cond (ilt r3 0)
          (some true)
          (Option.bind (F_l_szLeverFaultS (x.2.2, r3)) fun r5 =>
            (cond (ilt r5 0)
              (some true)
              (Option.bind (F_l_toRegister x.1) fun r7 =>
                (Option.bind (F_l_toRegister x.2.1) fun r8 =>
                  (Option.bind (F_l_toLeverFaultS x.2.2) fun r9 =>
                    (Option.bind (F_s_ShowsFaults (r7, (r8, r9))) fun r10 =>
                      (Option.bind (F_l_toRegister x.1) fun r11 =>
                        (Option.bind (F_l_toRegister x.2.1) fun r12 =>
                          (Option.bind (F_l_toLeverFaultS x.2.2) fun r13 =>
                            (Option.bind (F_i_ShowsFaults (r11, (r12, r13))) fun r14 =>
                              (cond (bnev r14 r10)
                                (some false)
                                (Option.bind (F_l_toRegister x.1) fun r16 =>
                                  (Option.bind (F_l_eqRegister (r11, r16)) fun r17 =>
                                    (cond (bnot r17)
                                      (some false)
                                      (Option.bind (F_l_toRegister x.2.1) fun r19 =>
                                        (Option.bind (F_l_eqRegister (r12, r19)) fun r20 =>
                                          (cond (bnot r20)
                                            (some false)
                                            (Option.bind (F_l_toLeverFaultS x.2.2) fun r22 =>
                                              (Option.bind (F_l_eqLeverFaultS (r13, r22)) fun r23 =>
                                                (cond (bnot r23)
                                                  (some false)
                                                  (some true)))))))))))))))))))))))))

noncomputable def F_s_l20One (x : (((Int × (List Int)) × ((Int × (List Int)) × ((Int × (List Int)) × Int))) × (List (Int × Int)))) : Option Bool :=
  (Option.bind (F_s_l08Add (x.1.1, (x.1.2.1, x.2))) fun r1 =>
    (Option.bind (F_s_l02Same (r1.1, x.1.2.2.1)) fun r2 =>
      (cond r2
        (some (ieq r1.2 x.1.2.2.2))
        (some false))))

noncomputable def F_s_WrongTrials (x : (List ((Int × (List Int)) × ((Int × (List Int)) × ((Int × (List Int)) × Int))))) : Option ((List Int) × Int) :=
  (Option.bind (F_s_l20Ok x) fun r1 =>
    (cond (bnot r1)
      (some (([] : (List Int)), 1))
      (iter (σ := (Int × ((List ((Int × (List Int)) × ((Int × (List Int)) × ((Int × (List Int)) × Int)))) × (List Int)))) (fun s3 =>
        (cond (ilt s3.1 (n2i (xlen s3.2.1)))
          (chk (okIx s3.1 (xlen s3.2.1))
          (Option.bind (F_s_l20One ((xget s3.2.1 (i2n s3.1) ((0, ([] : (List Int))), ((0, ([] : (List Int))), ((0, ([] : (List Int))), 0)))), ([] : (List (Int × Int))))) fun r5 =>
            (cond (bnot r5)
              (chk (okRoom (xlen s3.2.2) (xlen (s3.1 :: ([] : (List Int)))) 8)
              (some (.inl ((iadd .i64 s3.1 1), (s3.2.1, (xapp s3.2.2 (s3.1 :: ([] : (List Int)))))))))
              (some (.inl ((iadd .i64 s3.1 1), s3.2))))))
          (some (.inr (s3.2.2, 0)))))
        (0, (x, ([] : (List Int)))))))

noncomputable def F_i_Trial_explained (x : (((Int × (List Int)) × ((Int × (List Int)) × ((Int × (List Int)) × Int))) × (List (Int × Int)))) : Option Bool :=
  (Option.bind (F_i_addedWith (x.1.1, (x.1.2.1, x.2))) fun r1 =>
    (Option.bind (F_i_SameRegister (r1.1, x.1.2.2.1)) fun r2 =>
      (cond r2
        (some (ieq r1.2 x.1.2.2.2))
        (some false))))

noncomputable def F_i_WrongTrials (x : (List ((Int × (List Int)) × ((Int × (List Int)) × ((Int × (List Int)) × Int))))) : Option ((List Int) × Int) :=
  (Option.bind (F_i_ValidTrials x) fun r1 =>
    (cond (bnot r1)
      (some (([] : (List Int)), 1))
      (iter (σ := (Int × (Int × ((List Int) × (List ((Int × (List Int)) × ((Int × (List Int)) × ((Int × (List Int)) × Int)))))))) (fun s3 =>
        (cond (ilt s3.2.1 s3.1)
          (chk (okIx s3.2.1 (xlen s3.2.2.2))
          (Option.bind (F_i_Trial_explained (((xget s3.2.2.2 (i2n s3.2.1) ((0, ([] : (List Int))), ((0, ([] : (List Int))), ((0, ([] : (List Int))), 0)))).1, ((xget s3.2.2.2 (i2n s3.2.1) ((0, ([] : (List Int))), ((0, ([] : (List Int))), ((0, ([] : (List Int))), 0)))).2.1, ((xget s3.2.2.2 (i2n s3.2.1) ((0, ([] : (List Int))), ((0, ([] : (List Int))), ((0, ([] : (List Int))), 0)))).2.2.1, (xget s3.2.2.2 (i2n s3.2.1) ((0, ([] : (List Int))), ((0, ([] : (List Int))), ((0, ([] : (List Int))), 0)))).2.2.2))), ([] : (List (Int × Int))))) fun r5 =>
            (cond (bnot r5)
              (chk (okRoom (xlen s3.2.2.1) (xlen (s3.2.1 :: ([] : (List Int)))) 8)
              (some (.inl (s3.1, ((iadd .i64 s3.2.1 1), ((xapp s3.2.2.1 (s3.2.1 :: ([] : (List Int)))), s3.2.2.2))))))
              (some (.inl (s3.1, ((iadd .i64 s3.2.1 1), s3.2.2)))))))
          (some (.inr (s3.2.2.1, 0)))))
        ((n2i (xlen x)), (0, (([] : (List Int)), x))))))

noncomputable def F_l_markTrialS (x : ((List ((Int × (List Int)) × ((Int × (List Int)) × ((Int × (List Int)) × Int)))) × Int)) : Option (Int × (List ((Int × (List Int)) × ((Int × (List Int)) × ((Int × (List Int)) × Int))))) :=
  (iter (σ := (Int × (Int × (List ((Int × (List Int)) × ((Int × (List Int)) × ((Int × (List Int)) × Int))))))) (fun s1 =>
    (cond (ilt s1.2.1 (n2i (xlen s1.2.2)))
      (chk (okIx s1.2.1 (xlen s1.2.2))
      (share s1.2.2 fun q3 =>
        (share (xset q3 (i2n s1.2.1) ((s1.1, (xget q3 (i2n s1.2.1) ((0, ([] : (List Int))), ((0, ([] : (List Int))), ((0, ([] : (List Int))), 0)))).1.2), (xget q3 (i2n s1.2.1) ((0, ([] : (List Int))), ((0, ([] : (List Int))), ((0, ([] : (List Int))), 0)))).2)) fun q4 =>
          (chk (okIx s1.2.1 (xlen q4))
          (Option.bind (F_l_markInt64S ((xget q4 (i2n s1.2.1) ((0, ([] : (List Int))), ((0, ([] : (List Int))), ((0, ([] : (List Int))), 0)))).1.2, (iadd .i64 s1.1 1))) fun r5 =>
            (chk (okIx s1.2.1 (xlen (xset q4 (i2n s1.2.1) (((xget q4 (i2n s1.2.1) ((0, ([] : (List Int))), ((0, ([] : (List Int))), ((0, ([] : (List Int))), 0)))).1.1, r5.2), (xget q4 (i2n s1.2.1) ((0, ([] : (List Int))), ((0, ([] : (List Int))), ((0, ([] : (List Int))), 0)))).2))))
            (share (xset q4 (i2n s1.2.1) (((xget q4 (i2n s1.2.1) ((0, ([] : (List Int))), ((0, ([] : (List Int))), ((0, ([] : (List Int))), 0)))).1.1, r5.2), (xget q4 (i2n s1.2.1) ((0, ([] : (List Int))), ((0, ([] : (List Int))), ((0, ([] : (List Int))), 0)))).2)) fun q6 =>
              (share (xset q6 (i2n s1.2.1) ((xget q6 (i2n s1.2.1) ((0, ([] : (List Int))), ((0, ([] : (List Int))), ((0, ([] : (List Int))), 0)))).1, ((r5.1, (xget q6 (i2n s1.2.1) ((0, ([] : (List Int))), ((0, ([] : (List Int))), ((0, ([] : (List Int))), 0)))).2.1.2), (xget q6 (i2n s1.2.1) ((0, ([] : (List Int))), ((0, ([] : (List Int))), ((0, ([] : (List Int))), 0)))).2.2))) fun q7 =>
                (chk (okIx s1.2.1 (xlen q7))
                (Option.bind (F_l_markInt64S ((xget q7 (i2n s1.2.1) ((0, ([] : (List Int))), ((0, ([] : (List Int))), ((0, ([] : (List Int))), 0)))).2.1.2, (iadd .i64 r5.1 1))) fun r8 =>
                  (chk (okIx s1.2.1 (xlen (xset q7 (i2n s1.2.1) ((xget q7 (i2n s1.2.1) ((0, ([] : (List Int))), ((0, ([] : (List Int))), ((0, ([] : (List Int))), 0)))).1, (((xget q7 (i2n s1.2.1) ((0, ([] : (List Int))), ((0, ([] : (List Int))), ((0, ([] : (List Int))), 0)))).2.1.1, r8.2), (xget q7 (i2n s1.2.1) ((0, ([] : (List Int))), ((0, ([] : (List Int))), ((0, ([] : (List Int))), 0)))).2.2)))))
                  (share (xset q7 (i2n s1.2.1) ((xget q7 (i2n s1.2.1) ((0, ([] : (List Int))), ((0, ([] : (List Int))), ((0, ([] : (List Int))), 0)))).1, (((xget q7 (i2n s1.2.1) ((0, ([] : (List Int))), ((0, ([] : (List Int))), ((0, ([] : (List Int))), 0)))).2.1.1, r8.2), (xget q7 (i2n s1.2.1) ((0, ([] : (List Int))), ((0, ([] : (List Int))), ((0, ([] : (List Int))), 0)))).2.2))) fun q9 =>
                    (share (xset q9 (i2n s1.2.1) ((xget q9 (i2n s1.2.1) ((0, ([] : (List Int))), ((0, ([] : (List Int))), ((0, ([] : (List Int))), 0)))).1, ((xget q9 (i2n s1.2.1) ((0, ([] : (List Int))), ((0, ([] : (List Int))), ((0, ([] : (List Int))), 0)))).2.1, ((r8.1, (xget q9 (i2n s1.2.1) ((0, ([] : (List Int))), ((0, ([] : (List Int))), ((0, ([] : (List Int))), 0)))).2.2.1.2), (xget q9 (i2n s1.2.1) ((0, ([] : (List Int))), ((0, ([] : (List Int))), ((0, ([] : (List Int))), 0)))).2.2.2)))) fun q10 =>
                      (chk (okIx s1.2.1 (xlen q10))
                      (Option.bind (F_l_markInt64S ((xget q10 (i2n s1.2.1) ((0, ([] : (List Int))), ((0, ([] : (List Int))), ((0, ([] : (List Int))), 0)))).2.2.1.2, (iadd .i64 r8.1 1))) fun r11 =>
                        (chk (okIx s1.2.1 (xlen (xset q10 (i2n s1.2.1) ((xget q10 (i2n s1.2.1) ((0, ([] : (List Int))), ((0, ([] : (List Int))), ((0, ([] : (List Int))), 0)))).1, ((xget q10 (i2n s1.2.1) ((0, ([] : (List Int))), ((0, ([] : (List Int))), ((0, ([] : (List Int))), 0)))).2.1, (((xget q10 (i2n s1.2.1) ((0, ([] : (List Int))), ((0, ([] : (List Int))), ((0, ([] : (List Int))), 0)))).2.2.1.1, r11.2), (xget q10 (i2n s1.2.1) ((0, ([] : (List Int))), ((0, ([] : (List Int))), ((0, ([] : (List Int))), 0)))).2.2.2))))))
                        (share (xset q10 (i2n s1.2.1) ((xget q10 (i2n s1.2.1) ((0, ([] : (List Int))), ((0, ([] : (List Int))), ((0, ([] : (List Int))), 0)))).1, ((xget q10 (i2n s1.2.1) ((0, ([] : (List Int))), ((0, ([] : (List Int))), ((0, ([] : (List Int))), 0)))).2.1, (((xget q10 (i2n s1.2.1) ((0, ([] : (List Int))), ((0, ([] : (List Int))), ((0, ([] : (List Int))), 0)))).2.2.1.1, r11.2), (xget q10 (i2n s1.2.1) ((0, ([] : (List Int))), ((0, ([] : (List Int))), ((0, ([] : (List Int))), 0)))).2.2.2)))) fun q12 =>
                          (share (xset q12 (i2n s1.2.1) ((xget q12 (i2n s1.2.1) ((0, ([] : (List Int))), ((0, ([] : (List Int))), ((0, ([] : (List Int))), 0)))).1, ((xget q12 (i2n s1.2.1) ((0, ([] : (List Int))), ((0, ([] : (List Int))), ((0, ([] : (List Int))), 0)))).2.1, ((xget q12 (i2n s1.2.1) ((0, ([] : (List Int))), ((0, ([] : (List Int))), ((0, ([] : (List Int))), 0)))).2.2.1, r11.1)))) fun q13 =>
                            (some (.inl ((iadd .i64 r11.1 1), ((iadd .i64 s1.2.1 1), q13))))))))))))))))))))))
      (some (.inr (s1.1, s1.2.2)))))
    (x.2, (0, x.1)))

noncomputable def F_l_FnExactWrongTrials (x : (List ((Int × (List Int)) × ((Int × (List Int)) × ((Int × (List Int)) × Int))))) : Option Bool :=
  (Option.bind (F_l_szTrialS (x, 1048576)) fun r1 =>
    (cond (ilt r1 0)
      (some true)
      (Option.bind (F_l_toTrialS x) fun r3 =>
        (Option.bind (F_s_WrongTrials r3) fun r4 =>
          (Option.bind (F_l_toTrialS x) fun r5 =>
            (Option.bind (F_i_WrongTrials r5) fun r6 =>
              (Option.bind (F_l_eqInt64S (r6.1, r4.1)) fun r7 =>
                (cond (bnot r7)
                  (some false)
                  (cond (ine r6.2 r4.2)
                    (some false)
                    (Option.bind (F_l_toTrialS x) fun r10 =>
                      (Option.bind (F_l_eqTrialS (r5, r10)) fun r11 =>
                        (cond (bnot r11)
                          (some false)
                          (Option.bind (F_l_markTrialS (r5, 1)) fun r13 =>
                            (cond (ilt r13.1 0)
                              (some false)
                              (Option.bind (F_l_eqInt64S (r6.1, r4.1)) fun r15 =>
                                (cond (bnot r15)
                                  (some false)
                                  (cond (ine r6.2 r4.2)
                                    (some false)
                                    (Option.bind (F_l_markInt64S (r6.1, 1)) fun r18 =>
                                      (Option.bind (F_l_heldInt64S (r18.2, 1)) fun r19 =>
                                        (cond (ilt r19 0)
                                          (some false)
                                          (cond (ine r19 r18.1)
                                            (some false)
                                            (Option.bind (F_l_toTrialS x) fun r22 =>
                                              (Option.bind (F_i_WrongTrials r22) fun r23 =>
                                                (Option.bind (F_l_eqInt64S (r23.1, r4.1)) fun r24 =>
                                                  (cond (bnot r24)
                                                    (some false)
                                                    (cond (ine r23.2 r4.2)
                                                      (some false)
                                                      (Option.bind (F_l_heldInt64S (r18.2, 1)) fun r27 =>
                                                        (cond (ilt r27 0)
                                                          (some false)
                                                          (cond (ine r27 r18.1)
                                                            (some false)
                                                            (some true))))))))))))))))))))))))))))))

noncomputable def F_s_l20All (x : ((List ((Int × (List Int)) × ((Int × (List Int)) × ((Int × (List Int)) × Int)))) × (List (Int × Int)))) : Option Bool :=
  (iter (σ := (Int × ((List ((Int × (List Int)) × ((Int × (List Int)) × ((Int × (List Int)) × Int)))) × (List (Int × Int))))) (fun s1 =>
    (cond (ilt s1.1 (n2i (xlen s1.2.1)))
      (chk (okIx s1.1 (xlen s1.2.1))
      (Option.bind (F_s_l20One ((xget s1.2.1 (i2n s1.1) ((0, ([] : (List Int))), ((0, ([] : (List Int))), ((0, ([] : (List Int))), 0)))), s1.2.2)) fun r3 =>
        (cond (bnot r3)
          (some (.inr false))
          (some (.inl ((iadd .i64 s1.1 1), s1.2))))))
      (some (.inr true))))
    (0, x))

noncomputable def F_s_Explains (x : ((List ((Int × (List Int)) × ((Int × (List Int)) × ((Int × (List Int)) × Int)))) × (List (Int × Int)))) : Option Bool :=
  (Option.bind (F_s_l20Ok x.1) fun r1 =>
    (cond r1
      (chk (okIx 0 (xlen x.1))
      (Option.bind (F_s_l08Ok ((n2i (xlen (xget x.1 (i2n 0) ((0, ([] : (List Int))), ((0, ([] : (List Int))), ((0, ([] : (List Int))), 0)))).1.2)), x.2)) fun r3 =>
        (cond r3
          (Option.bind (F_s_l20All x) fun r5 =>
            (some r5))
          (some false))))
      (some false)))

noncomputable def F_i_explain (x : ((List ((Int × (List Int)) × ((Int × (List Int)) × ((Int × (List Int)) × Int)))) × (List (Int × Int)))) : Option Bool :=
  (iter (σ := (Int × (Int × ((List ((Int × (List Int)) × ((Int × (List Int)) × ((Int × (List Int)) × Int)))) × (List (Int × Int)))))) (fun s1 =>
    (cond (ilt s1.2.1 s1.1)
      (chk (okIx s1.2.1 (xlen s1.2.2.1))
      (Option.bind (F_i_Trial_explained (((xget s1.2.2.1 (i2n s1.2.1) ((0, ([] : (List Int))), ((0, ([] : (List Int))), ((0, ([] : (List Int))), 0)))).1, ((xget s1.2.2.1 (i2n s1.2.1) ((0, ([] : (List Int))), ((0, ([] : (List Int))), ((0, ([] : (List Int))), 0)))).2.1, ((xget s1.2.2.1 (i2n s1.2.1) ((0, ([] : (List Int))), ((0, ([] : (List Int))), ((0, ([] : (List Int))), 0)))).2.2.1, (xget s1.2.2.1 (i2n s1.2.1) ((0, ([] : (List Int))), ((0, ([] : (List Int))), ((0, ([] : (List Int))), 0)))).2.2.2))), s1.2.2.2)) fun r3 =>
        (cond (bnot r3)
          (some (.inr false))
          (some (.inl (s1.1, ((iadd .i64 s1.2.1 1), s1.2.2)))))))
      (Option.map Sum.inr
        (chk (okIx 0 (xlen s1.2.2.1))
      (Option.bind (F_i_Register_width (xget s1.2.2.1 (i2n 0) ((0, ([] : (List Int))), ((0, ([] : (List Int))), ((0, ([] : (List Int))), 0)))).1) fun r3 =>
        (Option.bind (F_i_ValidFaults (r3, s1.2.2.2)) fun r4 =>
          (some r4)))))))
    ((n2i (xlen x.1)), (0, x)))

noncomputable def F_i_Explains (x : ((List ((Int × (List Int)) × ((Int × (List Int)) × ((Int × (List Int)) × Int)))) × (List (Int × Int)))) : Option Bool :=
  (Option.bind (F_i_ValidTrials x.1) fun r1 =>
    (cond r1
      (Option.bind (F_i_explain x) fun r3 =>
        (some r3))
      (some false)))

noncomputable def F_l_FnExactExplains (x : ((List ((Int × (List Int)) × ((Int × (List Int)) × ((Int × (List Int)) × Int)))) × (List (Int × Int)))) : Option Bool :=
  (Option.bind (F_l_szTrialS (x.1, 1048576)) fun r1 =>
    (cond (ilt r1 0)
      (some true)
      (Option.bind (F_l_szLeverFaultS (x.2, r1)) fun r3 =>
        (cond (ilt r3 0)
          (some true)
          (Option.bind (F_l_toTrialS x.1) fun r5 =>
            (Option.bind (F_l_toLeverFaultS x.2) fun r6 =>
              (Option.bind (F_s_Explains (r5, r6)) fun r7 =>
                (Option.bind (F_l_toTrialS x.1) fun r8 =>
                  (Option.bind (F_l_toLeverFaultS x.2) fun r9 =>
                    (Option.bind (F_i_Explains (r8, r9)) fun r10 =>
                      (cond (bnev r10 r7)
                        (some false)
                        (Option.bind (F_l_toTrialS x.1) fun r12 =>
                          (Option.bind (F_l_eqTrialS (r8, r12)) fun r13 =>
                            (cond (bnot r13)
                              (some false)
                              (Option.bind (F_l_toLeverFaultS x.2) fun r15 =>
                                (Option.bind (F_l_eqLeverFaultS (r9, r15)) fun r16 =>
                                  (cond (bnot r16)
                                    (some false)
                                    (some true))))))))))))))))))

noncomputable def F_s_l02New (x : (Int × (Int × Int))) : Option ((Int × (List Int)) × Int) :=
  (iter (σ := (Int × (Int × (Int × (Int × (Int × ((List Int) × (Int × (List Int))))))))) (fun s1 =>
    (cond (ilt s1.2.2.2.1 s1.2.1)
      (chk (okDiv s1.1)
      (chk (okRoom (xlen s1.2.2.2.2.2.2.2) (xlen ((irem s1.2.2.1 s1.1) :: ([] : (List Int)))) 8)
      (chk (okDiv s1.1)
      (some (.inl (s1.1, (s1.2.1, ((iquo .i64 s1.2.2.1 s1.1), ((iadd .i64 s1.2.2.2.1 1), (s1.2.2.2.2.1, (s1.2.2.2.2.2.1, (s1.2.2.2.2.2.2.1, (xapp s1.2.2.2.2.2.2.2 ((irem s1.2.2.1 s1.1) :: ([] : (List Int))))))))))))))))
      (some (.inr (s1.2.2.2.2.2.2, s1.2.2.1)))))
    (x.1, (x.2.1, (x.2.2, (0, (0, (([] : (List Int)), (x.1, ([] : (List Int))))))))))

noncomputable def F_s_l20Pair (x : (Int × (Int × (Int × Bool)))) : Option ((Int × (List Int)) × ((Int × (List Int)) × ((Int × (List Int)) × Int))) :=
  (Option.bind (F_s_l02New (x.1, (x.2.1, 0))) fun r1 =>
    (Option.bind (F_s_l02New (x.1, (x.2.1, 0))) fun r2 =>
      (cond (ige x.2.2.1 0)
        (chk (okIx x.2.2.1 (xlen r1.1.2))
        (cond (ige x.2.2.1 0)
          (cond (bnot x.2.2.2)
            (chk (okIx x.2.2.1 (xlen r2.1.2))
            (cond x.2.2.2
              (chk (okIx (isub .i64 x.2.2.1 1) (xlen (xset r1.1.2 (i2n x.2.2.1) (isub .i64 x.1 1))))
              (chk (okIx (isub .i64 x.2.2.1 1) (xlen (xset r2.1.2 (i2n x.2.2.1) 1)))
              (some ((r1.1.1, (xset (xset r1.1.2 (i2n x.2.2.1) (isub .i64 x.1 1)) (i2n (isub .i64 x.2.2.1 1)) (isub .i64 x.1 1))), ((r2.1.1, (xset (xset r2.1.2 (i2n x.2.2.1) 1) (i2n (isub .i64 x.2.2.1 1)) 1)), ((0, ([] : (List Int))), 0))))))
              (some ((r1.1.1, (xset r1.1.2 (i2n x.2.2.1) (isub .i64 x.1 1))), ((r2.1.1, (xset r2.1.2 (i2n x.2.2.1) 1)), ((0, ([] : (List Int))), 0))))))
            (cond x.2.2.2
              (chk (okIx (isub .i64 x.2.2.1 1) (xlen (xset r1.1.2 (i2n x.2.2.1) (isub .i64 x.1 1))))
              (chk (okIx (isub .i64 x.2.2.1 1) (xlen r2.1.2))
              (some ((r1.1.1, (xset (xset r1.1.2 (i2n x.2.2.1) (isub .i64 x.1 1)) (i2n (isub .i64 x.2.2.1 1)) (isub .i64 x.1 1))), ((r2.1.1, (xset r2.1.2 (i2n (isub .i64 x.2.2.1 1)) 1)), ((0, ([] : (List Int))), 0))))))
              (some ((r1.1.1, (xset r1.1.2 (i2n x.2.2.1) (isub .i64 x.1 1))), (r2.1, ((0, ([] : (List Int))), 0))))))
          (cond x.2.2.2
            (chk (okIx (isub .i64 x.2.2.1 1) (xlen (xset r1.1.2 (i2n x.2.2.1) (isub .i64 x.1 1))))
            (chk (okIx (isub .i64 x.2.2.1 1) (xlen r2.1.2))
            (some ((r1.1.1, (xset (xset r1.1.2 (i2n x.2.2.1) (isub .i64 x.1 1)) (i2n (isub .i64 x.2.2.1 1)) (isub .i64 x.1 1))), ((r2.1.1, (xset r2.1.2 (i2n (isub .i64 x.2.2.1 1)) 1)), ((0, ([] : (List Int))), 0))))))
            (some ((r1.1.1, (xset r1.1.2 (i2n x.2.2.1) (isub .i64 x.1 1))), (r2.1, ((0, ([] : (List Int))), 0)))))))
        (cond (ige x.2.2.1 0)
          (cond (bnot x.2.2.2)
            (chk (okIx x.2.2.1 (xlen r2.1.2))
            (cond x.2.2.2
              (chk (okIx (isub .i64 x.2.2.1 1) (xlen r1.1.2))
              (chk (okIx (isub .i64 x.2.2.1 1) (xlen (xset r2.1.2 (i2n x.2.2.1) 1)))
              (some ((r1.1.1, (xset r1.1.2 (i2n (isub .i64 x.2.2.1 1)) (isub .i64 x.1 1))), ((r2.1.1, (xset (xset r2.1.2 (i2n x.2.2.1) 1) (i2n (isub .i64 x.2.2.1 1)) 1)), ((0, ([] : (List Int))), 0))))))
              (some (r1.1, ((r2.1.1, (xset r2.1.2 (i2n x.2.2.1) 1)), ((0, ([] : (List Int))), 0))))))
            (cond x.2.2.2
              (chk (okIx (isub .i64 x.2.2.1 1) (xlen r1.1.2))
              (chk (okIx (isub .i64 x.2.2.1 1) (xlen r2.1.2))
              (some ((r1.1.1, (xset r1.1.2 (i2n (isub .i64 x.2.2.1 1)) (isub .i64 x.1 1))), ((r2.1.1, (xset r2.1.2 (i2n (isub .i64 x.2.2.1 1)) 1)), ((0, ([] : (List Int))), 0))))))
              (some (r1.1, (r2.1, ((0, ([] : (List Int))), 0))))))
          (cond x.2.2.2
            (chk (okIx (isub .i64 x.2.2.1 1) (xlen r1.1.2))
            (chk (okIx (isub .i64 x.2.2.1 1) (xlen r2.1.2))
            (some ((r1.1.1, (xset r1.1.2 (i2n (isub .i64 x.2.2.1 1)) (isub .i64 x.1 1))), ((r2.1.1, (xset r2.1.2 (i2n (isub .i64 x.2.2.1 1)) 1)), ((0, ([] : (List Int))), 0))))))
            (some (r1.1, (r2.1, ((0, ([] : (List Int))), 0)))))))))

noncomputable def F_s_l20Pairs (x : (Int × Int)) : Option (List ((Int × (List Int)) × ((Int × (List Int)) × ((Int × (List Int)) × Int)))) :=
  (Option.bind (F_s_l20Pair (x.1, (x.2, ((-1), false)))) fun r1 =>
    (iter (σ := (Int × (Int × (Int × (List ((Int × (List Int)) × ((Int × (List Int)) × ((Int × (List Int)) × Int)))))))) (fun s2 =>
      (cond (ilt s2.2.2.1 s2.2.1)
        (Option.bind (F_s_l20Pair (s2.1, (s2.2.1, (s2.2.2.1, false)))) fun r4 =>
          (chk (okRoom (xlen s2.2.2.2) (xlen ((r4.1, (r4.2.1, (r4.2.2.1, r4.2.2.2))) :: ([] : (List ((Int × (List Int)) × ((Int × (List Int)) × ((Int × (List Int)) × Int))))))) 104)
          (some (.inl (s2.1, (s2.2.1, ((iadd .i64 s2.2.2.1 1), (xapp s2.2.2.2 ((r4.1, (r4.2.1, (r4.2.2.1, r4.2.2.2))) :: ([] : (List ((Int × (List Int)) × ((Int × (List Int)) × ((Int × (List Int)) × Int))))))))))))))
        (Option.map Sum.inr
          (iter (σ := (Int × (Int × (Int × (List ((Int × (List Int)) × ((Int × (List Int)) × ((Int × (List Int)) × Int)))))))) (fun s4 =>
          (cond (ilt s4.2.2.1 s4.2.1)
            (Option.bind (F_s_l20Pair (s4.1, (s4.2.1, (s4.2.2.1, true)))) fun r6 =>
              (chk (okRoom (xlen s4.2.2.2) (xlen ((r6.1, (r6.2.1, (r6.2.2.1, r6.2.2.2))) :: ([] : (List ((Int × (List Int)) × ((Int × (List Int)) × ((Int × (List Int)) × Int))))))) 104)
              (some (.inl (s4.1, (s4.2.1, ((iadd .i64 s4.2.2.1 1), (xapp s4.2.2.2 ((r6.1, (r6.2.1, (r6.2.2.1, r6.2.2.2))) :: ([] : (List ((Int × (List Int)) × ((Int × (List Int)) × ((Int × (List Int)) × Int))))))))))))))
            (some (.inr s4.2.2.2))))
          (s2.1, (s2.2.1, (1, s2.2.2.2)))))))
      (x.1, (x.2, (0, ((r1.1, (r1.2.1, (r1.2.2.1, r1.2.2.2))) :: ([] : (List ((Int × (List Int)) × ((Int × (List Int)) × ((Int × (List Int)) × Int)))))))))))

noncomputable def F_s_StandardTrials (x : (Int × (Int × (List (Int × Int))))) : Option ((List ((Int × (List Int)) × ((Int × (List Int)) × ((Int × (List Int)) × Int)))) × Int) :=
  (Option.bind (F_s_l02Base x.1) fun r1 =>
    (cond (bnot r1)
      (some (([] : (List ((Int × (List Int)) × ((Int × (List Int)) × ((Int × (List Int)) × Int))))), 2))
      (Option.bind (F_s_l08Ok x.2) fun r3 =>
        (cond (bnot r3)
          (some (([] : (List ((Int × (List Int)) × ((Int × (List Int)) × ((Int × (List Int)) × Int))))), 2))
          (Option.bind (F_s_l20Pairs (x.1, x.2.1)) fun r5 =>
            (iter (σ := (Int × ((List (Int × Int)) × (List ((Int × (List Int)) × ((Int × (List Int)) × ((Int × (List Int)) × Int))))))) (fun s6 =>
              (cond (ilt s6.1 (n2i (xlen s6.2.2)))
                (chk (okIx s6.1 (xlen s6.2.2))
                (chk (okIx s6.1 (xlen s6.2.2))
                (Option.bind (F_s_l08Add ((xget s6.2.2 (i2n s6.1) ((0, ([] : (List Int))), ((0, ([] : (List Int))), ((0, ([] : (List Int))), 0)))).1, ((xget s6.2.2 (i2n s6.1) ((0, ([] : (List Int))), ((0, ([] : (List Int))), ((0, ([] : (List Int))), 0)))).2.1, s6.2.1))) fun r8 =>
                  (chk (okIx s6.1 (xlen s6.2.2))
                  (share s6.2.2 fun q9 =>
                    (share (xset q9 (i2n s6.1) ((xget q9 (i2n s6.1) ((0, ([] : (List Int))), ((0, ([] : (List Int))), ((0, ([] : (List Int))), 0)))).1, ((xget q9 (i2n s6.1) ((0, ([] : (List Int))), ((0, ([] : (List Int))), ((0, ([] : (List Int))), 0)))).2.1, (r8.1, (xget q9 (i2n s6.1) ((0, ([] : (List Int))), ((0, ([] : (List Int))), ((0, ([] : (List Int))), 0)))).2.2.2)))) fun q10 =>
                      (chk (okIx s6.1 (xlen q10))
                      (share q10 fun q11 =>
                        (share (xset q11 (i2n s6.1) ((xget q11 (i2n s6.1) ((0, ([] : (List Int))), ((0, ([] : (List Int))), ((0, ([] : (List Int))), 0)))).1, ((xget q11 (i2n s6.1) ((0, ([] : (List Int))), ((0, ([] : (List Int))), ((0, ([] : (List Int))), 0)))).2.1, ((xget q11 (i2n s6.1) ((0, ([] : (List Int))), ((0, ([] : (List Int))), ((0, ([] : (List Int))), 0)))).2.2.1, r8.2)))) fun q12 =>
                          (some (.inl ((iadd .i64 s6.1 1), (s6.2.1, q12)))))))))))))
                (Option.map Sum.inr
                  (Option.bind (F_s_l20Ok s6.2.2) fun r8 =>
                  (cond (bnot r8)
                    (some (([] : (List ((Int × (List Int)) × ((Int × (List Int)) × ((Int × (List Int)) × Int))))), 5))
                    (some (s6.2.2, 0)))))))
              (0, (x.2.2, r5))))))))

noncomputable def F_i_StandardTrials_1 (x : ((List (Int × Int)) × ((List (Int × Int)) × (Int × (Int × ((List (Int × Int)) × (List ((Int × (List Int)) × ((Int × (List Int)) × ((Int × (List Int)) × Int)))))))))) : Option (Int × (Int × ((List (Int × Int)) × (List ((Int × (List Int)) × ((Int × (List Int)) × ((Int × (List Int)) × Int))))))) :=
  (iter (σ := (Int × (Int × ((List (Int × Int)) × ((List (Int × Int)) × ((List (Int × Int)) × ((List ((Int × (List Int)) × ((Int × (List Int)) × ((Int × (List Int)) × Int)))) × (Int × (Int × (Int × (Int × ((List Int) × ((List Int) × ((List Int) × (Int × Int))))))))))))))) (fun s1 =>
    (cond (ilt s1.2.1 s1.1)
      (chk (okRoom (xlen s1.2.2.2.2.2.2.2.2.2.2.1) (xlen ((mget s1.2.2.1 s1.2.1) :: ([] : (List Int)))) 8)
      (chk (okRoom (xlen s1.2.2.2.2.2.2.2.2.2.2.2.1) (xlen ((mget s1.2.2.2.1 s1.2.1) :: ([] : (List Int)))) 8)
      (some (.inl (s1.1, ((iadd .i64 s1.2.1 1), (s1.2.2.1, (s1.2.2.2.1, (s1.2.2.2.2.1, (s1.2.2.2.2.2.1, (s1.2.2.2.2.2.2.1, (s1.2.2.2.2.2.2.2.1, (s1.2.2.2.2.2.2.2.2.1, (s1.2.2.2.2.2.2.2.2.2.1, ((xapp s1.2.2.2.2.2.2.2.2.2.2.1 ((mget s1.2.2.1 s1.2.1) :: ([] : (List Int)))), ((xapp s1.2.2.2.2.2.2.2.2.2.2.2.1 ((mget s1.2.2.2.1 s1.2.1) :: ([] : (List Int)))), (s1.2.2.2.2.2.2.2.2.2.2.2.2.1, s1.2.2.2.2.2.2.2.2.2.2.2.2.2)))))))))))))))))
      (Option.map Sum.inr
        (Option.bind (F_i_addedWith ((s1.2.2.2.2.2.2.1, s1.2.2.2.2.2.2.2.2.2.2.1), ((s1.2.2.2.2.2.2.2.1, s1.2.2.2.2.2.2.2.2.2.2.2.1), s1.2.2.2.2.1))) fun r3 =>
        (chk (okRoom (xlen s1.2.2.2.2.2.1) (xlen (((s1.2.2.2.2.2.2.1, s1.2.2.2.2.2.2.2.2.2.2.1), ((s1.2.2.2.2.2.2.2.1, s1.2.2.2.2.2.2.2.2.2.2.2.1), (r3.1, r3.2))) :: ([] : (List ((Int × (List Int)) × ((Int × (List Int)) × ((Int × (List Int)) × Int))))))) 104)
        (some (s1.2.2.2.2.2.2.2.2.2.2.2.2.2.1, (s1.2.2.2.2.2.2.2.2.2.2.2.2.2.2, (s1.2.2.2.2.1, (xapp s1.2.2.2.2.2.1 (((s1.2.2.2.2.2.2.1, s1.2.2.2.2.2.2.2.2.2.2.1), ((s1.2.2.2.2.2.2.2.1, s1.2.2.2.2.2.2.2.2.2.2.2.1), (r3.1, r3.2))) :: ([] : (List ((Int × (List Int)) × ((Int × (List Int)) × ((Int × (List Int)) × Int))))))))))))))))
    (x.2.2.2.1, (0, (x.1, (x.2.1, (x.2.2.2.2.1, (x.2.2.2.2.2, (x.2.2.1, (x.2.2.1, (0, (0, (([] : (List Int)), (([] : (List Int)), (([] : (List Int)), (x.2.2.1, x.2.2.2.1)))))))))))))))

noncomputable def F_i_StandardTrials (x : (Int × (Int × (List (Int × Int))))) : Option ((List ((Int × (List Int)) × ((Int × (List Int)) × ((Int × (List Int)) × Int)))) × Int) :=
  (Option.bind (F_i_isBase x.1) fun r1 =>
    (cond (bnot r1)
      (some (([] : (List ((Int × (List Int)) × ((Int × (List Int)) × ((Int × (List Int)) × Int))))), 2))
      (Option.bind (F_i_ValidFaults x.2) fun r3 =>
        (cond (bnot r3)
          (some (([] : (List ((Int × (List Int)) × ((Int × (List Int)) × ((Int × (List Int)) × Int))))), 2))
          (Option.bind (F_i_StandardTrials_1 (([] : (List (Int × Int))), (([] : (List (Int × Int))), (x.1, (x.2.1, (x.2.2, ([] : (List ((Int × (List Int)) × ((Int × (List Int)) × ((Int × (List Int)) × Int))))))))))) fun r5 =>
            (iter (σ := (Int × (Int × (Int × (Int × ((List ((Int × (List Int)) × ((Int × (List Int)) × ((Int × (List Int)) × Int)))) × (List (Int × Int)))))))) (fun s6 =>
              (cond (ilt s6.2.1 s6.1)
                (Option.bind (F_i_StandardTrials_1 ((mput ([] : (List (Int × Int))) s6.2.1 (isub .i64 s6.2.2.1 1)), ((mput ([] : (List (Int × Int))) s6.2.1 1), (s6.2.2.1, (s6.2.2.2.1, (s6.2.2.2.2.2, s6.2.2.2.2.1)))))) fun r8 =>
                  (some (.inl (s6.1, ((iadd .i64 s6.2.1 1), (r8.1, (r8.2.1, (r8.2.2.2, r8.2.2.1))))))))
                (Option.map Sum.inr
                  (iter (σ := (Int × (Int × (Int × ((List ((Int × (List Int)) × ((Int × (List Int)) × ((Int × (List Int)) × Int)))) × (List (Int × Int))))))) (fun s8 =>
                  (cond (ilt s8.1 s8.2.2.1)
                    (Option.bind (F_i_StandardTrials_1 ((mput (mput ([] : (List (Int × Int))) (isub .i64 s8.1 1) (isub .i64 s8.2.1 1)) s8.1 (isub .i64 s8.2.1 1)), ((mput ([] : (List (Int × Int))) (isub .i64 s8.1 1) 1), (s8.2.1, (s8.2.2.1, (s8.2.2.2.2, s8.2.2.2.1)))))) fun r10 =>
                      (chk (bnot (ieq (isub .i64 s8.1 1) s8.1)) (some (.inl ((iadd .i64 s8.1 1), (r10.1, (r10.2.1, (r10.2.2.2, r10.2.2.1))))))))
                    (Option.map Sum.inr
                      (Option.bind (F_i_ValidTrials s8.2.2.2.1) fun r10 =>
                      (cond (bnot r10)
                        (some (([] : (List ((Int × (List Int)) × ((Int × (List Int)) × ((Int × (List Int)) × Int))))), 5))
                        (some (s8.2.2.2.1, 0)))))))
                  (1, (s6.2.2.1, (s6.2.2.2.1, s6.2.2.2.2)))))))
              (r5.2.1, (0, (r5.1, (r5.2.1, (r5.2.2.2, r5.2.2.1)))))))))))

noncomputable def F_l_heldTrialS (x : ((List ((Int × (List Int)) × ((Int × (List Int)) × ((Int × (List Int)) × Int)))) × Int)) : Option Int :=
  (iter (σ := (Int × (Int × (List ((Int × (List Int)) × ((Int × (List Int)) × ((Int × (List Int)) × Int))))))) (fun s1 =>
    (cond (ilt s1.2.1 (n2i (xlen s1.2.2)))
      (chk (okIx s1.2.1 (xlen s1.2.2))
      (cond (ine (xget s1.2.2 (i2n s1.2.1) ((0, ([] : (List Int))), ((0, ([] : (List Int))), ((0, ([] : (List Int))), 0)))).1.1 s1.1)
        (some (.inr (-1)))
        (chk (okIx s1.2.1 (xlen s1.2.2))
        (Option.bind (F_l_heldInt64S ((xget s1.2.2 (i2n s1.2.1) ((0, ([] : (List Int))), ((0, ([] : (List Int))), ((0, ([] : (List Int))), 0)))).1.2, (iadd .i64 s1.1 1))) fun r4 =>
          (cond (ilt r4 0)
            (some (.inr (-1)))
            (chk (okIx s1.2.1 (xlen s1.2.2))
            (cond (ine (xget s1.2.2 (i2n s1.2.1) ((0, ([] : (List Int))), ((0, ([] : (List Int))), ((0, ([] : (List Int))), 0)))).2.1.1 r4)
              (some (.inr (-1)))
              (chk (okIx s1.2.1 (xlen s1.2.2))
              (Option.bind (F_l_heldInt64S ((xget s1.2.2 (i2n s1.2.1) ((0, ([] : (List Int))), ((0, ([] : (List Int))), ((0, ([] : (List Int))), 0)))).2.1.2, (iadd .i64 r4 1))) fun r7 =>
                (cond (ilt r7 0)
                  (some (.inr (-1)))
                  (chk (okIx s1.2.1 (xlen s1.2.2))
                  (cond (ine (xget s1.2.2 (i2n s1.2.1) ((0, ([] : (List Int))), ((0, ([] : (List Int))), ((0, ([] : (List Int))), 0)))).2.2.1.1 r7)
                    (some (.inr (-1)))
                    (chk (okIx s1.2.1 (xlen s1.2.2))
                    (Option.bind (F_l_heldInt64S ((xget s1.2.2 (i2n s1.2.1) ((0, ([] : (List Int))), ((0, ([] : (List Int))), ((0, ([] : (List Int))), 0)))).2.2.1.2, (iadd .i64 r7 1))) fun r10 =>
                      (cond (ilt r10 0)
                        (some (.inr (-1)))
                        (chk (okIx s1.2.1 (xlen s1.2.2))
                        (cond (ine (xget s1.2.2 (i2n s1.2.1) ((0, ([] : (List Int))), ((0, ([] : (List Int))), ((0, ([] : (List Int))), 0)))).2.2.2 r10)
                          (some (.inr (-1)))
                          (some (.inl ((iadd .i64 r10 1), ((iadd .i64 s1.2.1 1), s1.2.2)))))))))))))))))))))
      (some (.inr s1.1))))
    (x.2, (0, x.1)))

noncomputable def F_l_FnExactStandardTrials (x : (Int × (Int × (List (Int × Int))))) : Option Bool :=
  (Option.bind (F_l_szLeverFaultS (x.2.2, 1048576)) fun r1 =>
    (cond (ilt r1 0)
      (some true)
      (Option.bind (F_l_toLeverFaultS x.2.2) fun r3 =>
        (Option.bind (F_s_StandardTrials (x.1, (x.2.1, r3))) fun r4 =>
          (Option.bind (F_l_toLeverFaultS x.2.2) fun r5 =>
            (Option.bind (F_i_StandardTrials (x.1, (x.2.1, r5))) fun r6 =>
              (Option.bind (F_l_eqTrialS (r6.1, r4.1)) fun r7 =>
                (cond (bnot r7)
                  (some false)
                  (cond (ine r6.2 r4.2)
                    (some false)
                    (Option.bind (F_l_toLeverFaultS x.2.2) fun r10 =>
                      (Option.bind (F_l_eqLeverFaultS (r5, r10)) fun r11 =>
                        (cond (bnot r11)
                          (some false)
                          (Option.bind (F_l_markLeverFaultS (r5, 1)) fun r13 =>
                            (cond (ilt r13.1 0)
                              (some false)
                              (Option.bind (F_l_eqTrialS (r6.1, r4.1)) fun r15 =>
                                (cond (bnot r15)
                                  (some false)
                                  (cond (ine r6.2 r4.2)
                                    (some false)
                                    (Option.bind (F_l_markTrialS (r6.1, 1)) fun r18 =>
                                      (Option.bind (F_l_heldTrialS (r18.2, 1)) fun r19 =>
                                        (cond (ilt r19 0)
                                          (some false)
                                          (cond (ine r19 r18.1)
                                            (some false)
                                            (Option.bind (F_l_toLeverFaultS x.2.2) fun r22 =>
                                              (Option.bind (F_i_StandardTrials (x.1, (x.2.1, r22))) fun r23 =>
                                                (Option.bind (F_l_eqTrialS (r23.1, r4.1)) fun r24 =>
                                                  (cond (bnot r24)
                                                    (some false)
                                                    (cond (ine r23.2 r4.2)
                                                      (some false)
                                                      (Option.bind (F_l_heldTrialS (r18.2, 1)) fun r27 =>
                                                        (cond (ilt r27 0)
                                                          (some false)
                                                          (cond (ine r27 r18.1)
                                                            (some false)
                                                            (some true))))))))))))))))))))))))))))))

end Go.Prg
