/- What the functions of the program compute: printed by a program off the engine. Conditions: none. -/
import Derived.Test.YtjkaapoklbhokaaEng25
namespace Go.Prg
open Go.Eng
set_option linter.all false

noncomputable def F_l_szInt64S (x : ((List Int) × Int)) : Option Int :=
  (cond (ilt (isub .i64 x.2 (n2i (xlen x.1))) 0)
    (some (-1))
    (some (isub .i64 x.2 (n2i (xlen x.1)))))

noncomputable def F_l_szRegister (x : ((Int × (List Int)) × Int)) : Option Int :=
  (Option.bind (F_l_szInt64S (x.1.2, x.2)) fun r1 =>
    (cond (ilt r1 0)
      (some (-1))
      (some r1)))

noncomputable def F_s_l00Min (x : (Int × Int)) : Option Int :=
  (cond (ilt x.1 x.2)
    (some x.1)
    (some x.2))

noncomputable def F_s_l02Value (x : (Int × (List Int))) : Option Int :=
  (iter (σ := (Int × (Int × (Int × (List Int))))) (fun s1 =>
    (cond (ige s1.2.2.1 0)
      (chk (okIx s1.2.2.1 (xlen s1.2.2.2))
      (Option.bind (F_s_l00Min (1000000000001, (iadd .i64 (imul .i64 s1.2.1 s1.1) (xget s1.2.2.2 (i2n s1.2.2.1) 0)))) fun r3 =>
        (some (.inl (s1.1, (r3, ((isub .i64 s1.2.2.1 1), s1.2.2.2)))))))
      (some (.inr s1.2.1))))
    (x.1, (0, ((isub .i64 (n2i (xlen x.2)) 1), x.2))))

noncomputable def F_s_l00In (x : (Int × (Int × Int))) : Option Bool :=
  (cond (ige x.1 x.2.1)
    (some (ile x.1 x.2.2))
    (some false))

noncomputable def F_s_l02Base (x : Int) : Option Bool :=
  (Option.bind (F_s_l00In (x, (2, 16))) fun r1 =>
    (some r1))

noncomputable def F_s_l02Digits (x : (Int × (List Int))) : Option Bool :=
  (iter (σ := (Int × (Int × (List Int)))) (fun s1 =>
    (cond (ilt s1.2.1 (n2i (xlen s1.2.2)))
      (chk (okIx s1.2.1 (xlen s1.2.2))
      (Option.bind (F_s_l00In ((xget s1.2.2 (i2n s1.2.1) 0), (0, (isub .i64 s1.1 1)))) fun r3 =>
        (cond (bnot r3)
          (some (.inr false))
          (some (.inl (s1.1, ((iadd .i64 s1.2.1 1), s1.2.2)))))))
      (Option.map Sum.inr
        (Option.bind (F_s_l00In ((n2i (xlen s1.2.2)), (1, 16))) fun r3 =>
        (some r3)))))
    (x.1, (0, x.2)))

noncomputable def F_s_l02Ok (x : (Int × (List Int))) : Option Bool :=
  (Option.bind (F_s_l02Base x.1) fun r1 =>
    (cond r1
      (Option.bind (F_s_l02Digits x) fun r3 =>
        (cond r3
          (Option.bind (F_s_l02Value x) fun r5 =>
            (some (ile r5 1000000000000)))
          (some false)))
      (some false)))

noncomputable def F_s_l02Two (x : ((Int × (List Int)) × (Int × (List Int)))) : Option Int :=
  (Option.bind (F_s_l02Ok x.1) fun r1 =>
    (cond (bnot r1)
      (some 1)
      (Option.bind (F_s_l02Ok x.2) fun r3 =>
        (cond (bnot r3)
          (some 1)
          (cond (ine x.1.1 x.2.1)
            (some 6)
            (cond (ine (n2i (xlen x.1.2)) (n2i (xlen x.2.2)))
              (some 6)
              (some 0)))))))

noncomputable def F_s_l00Own (x : (List Int)) : Option (List Int) :=
  (chk (okRoom (xlen ([] : (List Int))) (xlen x) 8)
  (some (xapp ([] : (List Int)) x)))

noncomputable def F_s_l02Own (x : (Int × (List Int))) : Option (Int × (List Int)) :=
  (Option.bind (F_s_l00Own x.2) fun r1 =>
    (some (x.1, r1)))

noncomputable def F_s_l06New (x : (Int × (List Int))) : Option ((Int × (List Int)) × ((List Bool) × ((List Bool) × (List (Int × (Int × Int)))))) :=
  (Option.bind (F_s_l02Own x) fun r1 =>
    (chk (ieq (n2i (xlen x.2)) (n2i (xlen x.2)))
    (chk (okMake (n2i (xlen x.2)) 1)
    (chk (ieq (n2i (xlen x.2)) (n2i (xlen x.2)))
    (chk (okMake (n2i (xlen x.2)) 1)
    (some (r1, ((xrep (i2n (n2i (xlen x.2))) false), ((xrep (i2n (n2i (xlen x.2))) false), ([] : (List (Int × (Int × Int)))))))))))))

noncomputable def F_s_l06S_note (x : (((Int × (List Int)) × ((List Bool) × ((List Bool) × (List (Int × (Int × Int)))))) × (Int × (Int × Int)))) : Option ((Int × (List Int)) × ((List Bool) × ((List Bool) × (List (Int × (Int × Int)))))) :=
  (chk (okRoom (xlen x.1.2.2.2) (xlen ((x.2.1, x.2.2) :: ([] : (List (Int × (Int × Int)))))) 24)
  (some (x.1.1, (x.1.2.1, (x.1.2.2.1, (xapp x.1.2.2.2 ((x.2.1, x.2.2) :: ([] : (List (Int × (Int × Int)))))))))))

noncomputable def F_s_l06S_turn (x : (((Int × (List Int)) × ((List Bool) × ((List Bool) × (List (Int × (Int × Int)))))) × (Int × (Int × Bool)))) : Option ((Int × (List Int)) × ((List Bool) × ((List Bool) × (List (Int × (Int × Int)))))) :=
  (chk (okIx x.2.1 (xlen x.1.1.2))
  (cond (ige (iadd .i64 (xget x.1.1.2 (i2n x.2.1) 0) x.2.2.1) x.1.1.1)
    (chk (okIx x.2.1 (xlen x.1.2.1))
    (chk (okIx x.2.1 (xlen x.1.2.2.1))
    (Option.bind (F_s_l06S_note ((x.1.1, ((xset x.1.2.1 (i2n x.2.1) true), ((xset x.1.2.2.1 (i2n x.2.1) x.2.2.2), x.1.2.2.2))), (2, (x.2.1, 0)))) fun r2 =>
      (chk (okIx x.2.1 (xlen r2.1.2))
      (some ((r2.1.1, (xset r2.1.2 (i2n x.2.1) (isub .i64 (iadd .i64 (xget x.1.1.2 (i2n x.2.1) 0) x.2.2.1) x.1.1.1))), (r2.2.1, r2.2.2)))))))
    (chk (okIx x.2.1 (xlen x.1.1.2))
    (some ((x.1.1.1, (xset x.1.1.2 (i2n x.2.1) (iadd .i64 (xget x.1.1.2 (i2n x.2.1) 0) x.2.2.1))), (x.1.2.1, x.1.2.2))))))

noncomputable def F_s_l06S_first (x : (((Int × (List Int)) × ((List Bool) × ((List Bool) × (List (Int × (Int × Int)))))) × (Int × (List Int)))) : Option ((Int × (List Int)) × ((List Bool) × ((List Bool) × (List (Int × (Int × Int)))))) :=
  (iter (σ := (Int × (Int × ((List Int) × ((List Bool) × ((List Bool) × ((List (Int × (Int × Int))) × (List (Int × (List Int)))))))))) (fun s1 =>
    (cond (ilt s1.1 (n2i (xlen (xget s1.2.2.2.2.2.2 0 (0, ([] : (List Int)))).2)))
      (chk (okIx s1.1 (xlen (xget s1.2.2.2.2.2.2 0 (0, ([] : (List Int)))).2))
      (cond (igt (xget (xget s1.2.2.2.2.2.2 0 (0, ([] : (List Int)))).2 (i2n s1.1) 0) 0)
        (chk (okIx s1.1 (xlen (xget s1.2.2.2.2.2.2 0 (0, ([] : (List Int)))).2))
        (Option.bind (F_s_l06S_note (((s1.2.1, s1.2.2.1), (s1.2.2.2.1, (s1.2.2.2.2.1, s1.2.2.2.2.2.1))), (1, (s1.1, (xget (xget s1.2.2.2.2.2.2 0 (0, ([] : (List Int)))).2 (i2n s1.1) 0))))) fun r4 =>
          (chk (okIx s1.1 (xlen (xget s1.2.2.2.2.2.2 0 (0, ([] : (List Int)))).2))
          (Option.bind (F_s_l06S_turn ((r4.1, (r4.2.1, r4.2.2)), (s1.1, ((xget (xget s1.2.2.2.2.2.2 0 (0, ([] : (List Int)))).2 (i2n s1.1) 0), false)))) fun r5 =>
            (some (.inl ((iadd .i64 s1.1 1), (r5.1.1, (r5.1.2, (r5.2.1, (r5.2.2.1, (r5.2.2.2, s1.2.2.2.2.2.2))))))))))))
        (some (.inl ((iadd .i64 s1.1 1), (s1.2.1, (s1.2.2.1, (s1.2.2.2.1, (s1.2.2.2.2.1, s1.2.2.2.2.2)))))))))
      (some (.inr ((s1.2.1, s1.2.2.1), (s1.2.2.2.1, (s1.2.2.2.2.1, s1.2.2.2.2.2.1)))))))
    (0, (x.1.1.1, (x.1.1.2, (x.1.2.1, (x.1.2.2.1, (x.1.2.2.2, (x.2 :: ([] : (List (Int × (List Int))))))))))))

noncomputable def F_s_l06S_second (x : ((Int × (List Int)) × ((List Bool) × ((List Bool) × (List (Int × (Int × Int))))))) : Option ((Int × (List Int)) × ((List Bool) × ((List Bool) × (List (Int × (Int × Int)))))) :=
  (iter (σ := (Int × (Int × (Int × ((List Int) × ((List Bool) × ((List Bool) × (List (Int × (Int × Int)))))))))) (fun s1 =>
    (cond (ilt s1.2.1 s1.1)
      (chk (okIx s1.2.1 (xlen s1.2.2.2.2.1))
      (cond (bnot (xget s1.2.2.2.2.1 (i2n s1.2.1) false))
        (some (.inl (s1.1, ((iadd .i64 s1.2.1 1), (s1.2.2.1, (s1.2.2.2.1, (s1.2.2.2.2.1, s1.2.2.2.2.2)))))))
        (Option.bind (F_s_l06S_note (((s1.2.2.1, s1.2.2.2.1), (s1.2.2.2.2.1, s1.2.2.2.2.2)), (3, (s1.2.1, 0)))) fun r4 =>
          (cond (ilt (iadd .i64 s1.2.1 1) s1.1)
            (Option.bind (F_s_l06S_turn ((r4.1, (r4.2.1, r4.2.2)), ((iadd .i64 s1.2.1 1), (1, true)))) fun r6 =>
              (some (.inl (s1.1, ((iadd .i64 s1.2.1 1), (r6.1.1, (r6.1.2, (r6.2.1, r6.2.2))))))))
            (some (.inl (s1.1, ((iadd .i64 s1.2.1 1), (r4.1.1, (r4.1.2, (r4.2.1, r4.2.2)))))))))))
      (some (.inr ((s1.2.2.1, s1.2.2.2.1), (s1.2.2.2.2.1, s1.2.2.2.2.2))))))
    ((n2i (xlen x.2.1)), (0, (x.1.1, (x.1.2, (x.2.1, x.2.2))))))

noncomputable def F_s_l06Run (x : ((Int × (List Int)) × (Int × (List Int)))) : Option ((Int × (List Int)) × ((List Bool) × ((List Bool) × (List (Int × (Int × Int)))))) :=
  (Option.bind (F_s_l06New x.1) fun r1 =>
    (Option.bind (F_s_l06S_first ((r1.1, (r1.2.1, r1.2.2)), x.2)) fun r2 =>
      (Option.bind (F_s_l06S_second (r2.1, (r2.2.1, r2.2.2))) fun r3 =>
        (some (r3.1, (r3.2.1, r3.2.2))))))

noncomputable def F_s_EventsOf (x : ((Int × (List Int)) × (Int × (List Int)))) : Option ((List (Int × (Int × Int))) × Int) :=
  (Option.bind (F_s_l02Two (x.1, x.2)) fun r1 =>
    (cond (ine r1 0)
      (some (([] : (List (Int × (Int × Int)))), r1))
      (Option.bind (F_s_l06Run (x.1, x.2)) fun r3 =>
        (some (r3.2.2.2, 0)))))

noncomputable def F_l_toInt64S (x : (List Int)) : Option (List Int) :=
  (chk (ieq (n2i (xlen x)) (n2i (xlen x)))
  (chk (okMake (n2i (xlen x)) 8)
  (iter (σ := (Int × ((List Int) × (List Int)))) (fun s1 =>
    (cond (ilt s1.1 (n2i (xlen s1.2.1)))
      (chk (okIx s1.1 (xlen s1.2.1))
      (chk (okIx s1.1 (xlen s1.2.2))
      (some (.inl ((iadd .i64 s1.1 1), (s1.2.1, (xset s1.2.2 (i2n s1.1) (xget s1.2.1 (i2n s1.1) 0))))))))
      (some (.inr s1.2.2))))
    (0, (x, (xrep (i2n (n2i (xlen x))) 0))))))

noncomputable def F_l_toRegister (x : (Int × (List Int))) : Option (Int × (List Int)) :=
  (Option.bind (F_l_toInt64S x.2) fun r1 =>
    (some (x.1, r1)))

noncomputable def F_i_between (x : (Int × (Int × Int))) : Option Bool :=
  (cond (ige x.1 x.2.1)
    (some (ile x.1 x.2.2))
    (some false))

noncomputable def F_i_Register_value (x : (Int × (List Int))) : Option Int :=
  (iter (σ := (Int × (Int × (Int × (List Int))))) (fun s1 =>
    (cond (ige s1.2.1 0)
      (chk (okIx s1.2.1 (xlen s1.2.2.2))
      (cond (igt (iadd .i64 (imul .i64 s1.1 s1.2.2.1) (xget s1.2.2.2 (i2n s1.2.1) 0)) 1000000000000)
        (some (.inr 1000000000001))
        (some (.inl ((iadd .i64 (imul .i64 s1.1 s1.2.2.1) (xget s1.2.2.2 (i2n s1.2.1) 0)), ((isub .i64 s1.2.1 1), s1.2.2))))))
      (some (.inr s1.1))))
    (0, ((isub .i64 (n2i (xlen x.2)) 1), x)))

noncomputable def F_i_isBase (x : Int) : Option Bool :=
  (Option.bind (F_i_between (x, (2, 16))) fun r1 =>
    (some r1))

noncomputable def F_i_isRegisterWidth (x : Int) : Option Bool :=
  (Option.bind (F_i_between (x, (1, 16))) fun r1 =>
    (some r1))

noncomputable def F_i_ValidRegister (x : (Int × (List Int))) : Option Bool :=
  (Option.bind (F_i_isBase x.1) fun r1 =>
    (cond (bnot r1)
      (some false)
      (Option.bind (F_i_isRegisterWidth (n2i (xlen x.2))) fun r3 =>
        (cond (bnot r3)
          (some false)
          (iter (σ := (Int × (Int × (Int × (List Int))))) (fun s5 =>
            (cond (ilt s5.2.1 s5.1)
              (chk (okIx s5.2.1 (xlen s5.2.2.2))
              (Option.bind (F_i_between ((xget s5.2.2.2 (i2n s5.2.1) 0), (0, (isub .i64 s5.2.2.1 1)))) fun r7 =>
                (cond (bnot r7)
                  (some (.inr false))
                  (some (.inl (s5.1, ((iadd .i64 s5.2.1 1), s5.2.2)))))))
              (Option.map Sum.inr
                (Option.bind (F_i_Register_value s5.2.2) fun r7 =>
                (some (ile r7 1000000000000))))))
            ((n2i (xlen x.2)), (0, x)))))))

noncomputable def F_i_Register_width (x : (Int × (List Int))) : Option Int :=
  (some (n2i (xlen x.2)))

noncomputable def F_i_pairCode (x : ((Int × (List Int)) × (Int × (List Int)))) : Option Int :=
  (Option.bind (F_i_ValidRegister x.1) fun r1 =>
    (cond (bnot r1)
      (some 1)
      (Option.bind (F_i_ValidRegister x.2) fun r3 =>
        (cond (bnot r3)
          (some 1)
          (cond (ine x.1.1 x.2.1)
            (some 6)
            (Option.bind (F_i_Register_width x.1) fun r6 =>
              (Option.bind (F_i_Register_width x.2) fun r7 =>
                (cond (ine r6 r7)
                  (some 6)
                  (some 0)))))))))

noncomputable def F_i_turned (x : ((Int × (List Int)) × (Int × (List Int)))) : Option ((Int × (List Int)) × (List Bool)) :=
  (iter (σ := (Int × (Int × (Int × ((List Int) × (Int × ((List Int) × (Int × ((List Int) × (Int × ((List Int) × (List Bool)))))))))))) (fun s1 =>
    (cond (ilt s1.2.1 s1.1)
      (chk (okIx s1.2.1 (xlen s1.2.2.2.1))
      (chk (okIx s1.2.1 (xlen s1.2.2.2.2.2.1))
      (chk (okDiv s1.2.2.1)
      (chk (okRoom (xlen s1.2.2.2.2.2.2.2.2.2.1) (xlen ((irem (iadd .i64 (xget s1.2.2.2.1 (i2n s1.2.1) 0) (xget s1.2.2.2.2.2.1 (i2n s1.2.1) 0)) s1.2.2.1) :: ([] : (List Int)))) 8)
      (chk (okRoom (xlen s1.2.2.2.2.2.2.2.2.2.2) (xlen ((ige (iadd .i64 (xget s1.2.2.2.1 (i2n s1.2.1) 0) (xget s1.2.2.2.2.2.1 (i2n s1.2.1) 0)) s1.2.2.1) :: ([] : (List Bool)))) 1)
      (some (.inl (s1.1, ((iadd .i64 s1.2.1 1), (s1.2.2.1, (s1.2.2.2.1, (s1.2.2.2.2.1, (s1.2.2.2.2.2.1, (s1.2.2.2.2.2.2.1, (s1.2.2.2.2.2.2.2.1, (s1.2.2.2.2.2.2.2.2.1, ((xapp s1.2.2.2.2.2.2.2.2.2.1 ((irem (iadd .i64 (xget s1.2.2.2.1 (i2n s1.2.1) 0) (xget s1.2.2.2.2.2.1 (i2n s1.2.1) 0)) s1.2.2.1) :: ([] : (List Int)))), (xapp s1.2.2.2.2.2.2.2.2.2.2 ((ige (iadd .i64 (xget s1.2.2.2.1 (i2n s1.2.1) 0) (xget s1.2.2.2.2.2.1 (i2n s1.2.1) 0)) s1.2.2.1) :: ([] : (List Bool)))))))))))))))))))))
      (some (.inr ((s1.2.2.2.2.2.2.2.2.1, s1.2.2.2.2.2.2.2.2.2.1), s1.2.2.2.2.2.2.2.2.2.2)))))
    ((n2i (xlen x.1.2)), (0, (x.1.1, (x.1.2, (x.2.1, (x.2.2, (0, (([] : (List Int)), (x.1.1, (([] : (List Int)), ([] : (List Bool)))))))))))))

noncomputable def F_i_copyNumbers (x : (List Int)) : Option (List Int) :=
  (chk (okRoom (xlen ([] : (List Int))) (xlen x) 8)
  (some (xapp ([] : (List Int)) x)))

noncomputable def F_i_pushed (x : ((Int × (List Int)) × (List Bool))) : Option ((Int × (List Int)) × (List Bool)) :=
  (Option.bind (F_i_copyNumbers x.1.2) fun r1 =>
    (chk (okRoom (xlen ([] : (List Bool))) (xlen x.2) 1)
    (iter (σ := (Int × (Int × (Int × ((List Int) × (Int × ((List Int) × (Int × ((List Int) × (List Bool)))))))))) (fun s2 =>
      (cond (ilt s2.2.1 s2.1)
        (chk (okIx s2.2.1 (xlen s2.2.2.2.2.2.2.2.2))
        (cond (bnot (xget s2.2.2.2.2.2.2.2.2 (i2n s2.2.1) false))
          (some (.inl (s2.1, ((iadd .i64 s2.2.1 1), (s2.2.2.1, (s2.2.2.2.1, (s2.2.2.2.2.1, (s2.2.2.2.2.2.1, (s2.2.2.2.2.2.2.1, s2.2.2.2.2.2.2.2)))))))))
          (cond (ieq (iadd .i64 s2.2.1 1) (n2i (xlen s2.2.2.2.2.2.2.2.2)))
            (some (.inl (s2.1, ((iadd .i64 s2.2.1 1), (s2.2.2.1, (s2.2.2.2.1, (s2.2.2.2.2.1, (s2.2.2.2.2.2.1, (s2.2.2.2.2.2.2.1, s2.2.2.2.2.2.2.2)))))))))
            (chk (okIx (iadd .i64 s2.2.1 1) (xlen s2.2.2.2.2.2.2.2.1))
            (chk (okIx (iadd .i64 s2.2.1 1) (xlen s2.2.2.2.2.2.2.2.1))
            (chk (okIx (iadd .i64 s2.2.1 1) (xlen (xset s2.2.2.2.2.2.2.2.1 (i2n (iadd .i64 s2.2.1 1)) (iadd .i64 (xget s2.2.2.2.2.2.2.2.1 (i2n (iadd .i64 s2.2.1 1)) 0) 1))))
            (cond (ieq (xget (xset s2.2.2.2.2.2.2.2.1 (i2n (iadd .i64 s2.2.1 1)) (iadd .i64 (xget s2.2.2.2.2.2.2.2.1 (i2n (iadd .i64 s2.2.1 1)) 0) 1)) (i2n (iadd .i64 s2.2.1 1)) 0) s2.2.2.1)
              (chk (okIx (iadd .i64 s2.2.1 1) (xlen (xset s2.2.2.2.2.2.2.2.1 (i2n (iadd .i64 s2.2.1 1)) (iadd .i64 (xget s2.2.2.2.2.2.2.2.1 (i2n (iadd .i64 s2.2.1 1)) 0) 1))))
              (chk (okIx (iadd .i64 s2.2.1 1) (xlen s2.2.2.2.2.2.2.2.2))
              (some (.inl (s2.1, ((iadd .i64 s2.2.1 1), (s2.2.2.1, (s2.2.2.2.1, (s2.2.2.2.2.1, (s2.2.2.2.2.2.1, (s2.2.2.2.2.2.2.1, ((xset (xset s2.2.2.2.2.2.2.2.1 (i2n (iadd .i64 s2.2.1 1)) (iadd .i64 (xget s2.2.2.2.2.2.2.2.1 (i2n (iadd .i64 s2.2.1 1)) 0) 1)) (i2n (iadd .i64 s2.2.1 1)) 0), (xset s2.2.2.2.2.2.2.2.2 (i2n (iadd .i64 s2.2.1 1)) true)))))))))))))
              (some (.inl (s2.1, ((iadd .i64 s2.2.1 1), (s2.2.2.1, (s2.2.2.2.1, (s2.2.2.2.2.1, (s2.2.2.2.2.2.1, (s2.2.2.2.2.2.2.1, ((xset s2.2.2.2.2.2.2.2.1 (i2n (iadd .i64 s2.2.1 1)) (iadd .i64 (xget s2.2.2.2.2.2.2.2.1 (i2n (iadd .i64 s2.2.1 1)) 0) 1)), s2.2.2.2.2.2.2.2.2)))))))))))))))))
        (some (.inr ((s2.2.2.2.2.2.2.1, s2.2.2.2.2.2.2.2.1), s2.2.2.2.2.2.2.2.2)))))
      ((n2i (xlen (xapp ([] : (List Bool)) x.2))), (0, (x.1.1, (x.1.2, (0, (([] : (List Int)), (x.1.1, (r1, (xapp ([] : (List Bool)) x.2))))))))))))

noncomputable def F_i_EventsOf (x : ((Int × (List Int)) × (Int × (List Int)))) : Option ((List (Int × (Int × Int))) × Int) :=
  (Option.bind (F_i_pairCode (x.1, x.2)) fun r1 =>
    (cond (ine r1 0)
      (some (([] : (List (Int × (Int × Int)))), r1))
      (Option.bind (F_i_turned (x.1, x.2)) fun r3 =>
        (Option.bind (F_i_pushed (r3.1, r3.2)) fun r4 =>
          (iter (σ := (Int × (Int × ((List Bool) × ((List Bool) × ((List (Int × (Int × Int))) × (List Int))))))) (fun s5 =>
            (cond (ilt s5.2.1 s5.1)
              (chk (okIx s5.2.1 (xlen s5.2.2.2.2.2))
              (cond (igt (xget s5.2.2.2.2.2 (i2n s5.2.1) 0) 0)
                (chk (okRoom (xlen s5.2.2.2.2.1) (xlen ((1, (s5.2.1, (xget s5.2.2.2.2.2 (i2n s5.2.1) 0))) :: ([] : (List (Int × (Int × Int)))))) 24)
                (chk (okIx s5.2.1 (xlen s5.2.2.1))
                (cond (xget s5.2.2.1 (i2n s5.2.1) false)
                  (chk (okRoom (xlen (xapp s5.2.2.2.2.1 ((1, (s5.2.1, (xget s5.2.2.2.2.2 (i2n s5.2.1) 0))) :: ([] : (List (Int × (Int × Int))))))) (xlen ((2, (s5.2.1, 0)) :: ([] : (List (Int × (Int × Int)))))) 24)
                  (some (.inl (s5.1, ((iadd .i64 s5.2.1 1), (s5.2.2.1, (s5.2.2.2.1, ((xapp (xapp s5.2.2.2.2.1 ((1, (s5.2.1, (xget s5.2.2.2.2.2 (i2n s5.2.1) 0))) :: ([] : (List (Int × (Int × Int)))))) ((2, (s5.2.1, 0)) :: ([] : (List (Int × (Int × Int)))))), s5.2.2.2.2.2))))))))
                  (some (.inl (s5.1, ((iadd .i64 s5.2.1 1), (s5.2.2.1, (s5.2.2.2.1, ((xapp s5.2.2.2.2.1 ((1, (s5.2.1, (xget s5.2.2.2.2.2 (i2n s5.2.1) 0))) :: ([] : (List (Int × (Int × Int)))))), s5.2.2.2.2.2))))))))))
                (chk (okIx s5.2.1 (xlen s5.2.2.1))
                (cond (xget s5.2.2.1 (i2n s5.2.1) false)
                  (chk (okRoom (xlen s5.2.2.2.2.1) (xlen ((2, (s5.2.1, 0)) :: ([] : (List (Int × (Int × Int)))))) 24)
                  (some (.inl (s5.1, ((iadd .i64 s5.2.1 1), (s5.2.2.1, (s5.2.2.2.1, ((xapp s5.2.2.2.2.1 ((2, (s5.2.1, 0)) :: ([] : (List (Int × (Int × Int)))))), s5.2.2.2.2.2))))))))
                  (some (.inl (s5.1, ((iadd .i64 s5.2.1 1), (s5.2.2.1, (s5.2.2.2.1, s5.2.2.2.2))))))))))
              (Option.map Sum.inr
                (iter (σ := (Int × (Int × ((List Bool) × ((List Bool) × (List (Int × (Int × Int)))))))) (fun s7 =>
                (cond (ilt s7.2.1 s7.1)
                  (chk (okIx s7.2.1 (xlen s7.2.2.2.1))
                  (cond (bnot (xget s7.2.2.2.1 (i2n s7.2.1) false))
                    (some (.inl (s7.1, ((iadd .i64 s7.2.1 1), (s7.2.2.1, s7.2.2.2)))))
                    (chk (okRoom (xlen s7.2.2.2.2) (xlen ((3, (s7.2.1, 0)) :: ([] : (List (Int × (Int × Int)))))) 24)
                    (cond (ilt (iadd .i64 s7.2.1 1) (n2i (xlen s7.2.2.2.1)))
                      (chk (okIx (iadd .i64 s7.2.1 1) (xlen s7.2.2.2.1))
                      (cond (xget s7.2.2.2.1 (i2n (iadd .i64 s7.2.1 1)) false)
                        (chk (okIx (iadd .i64 s7.2.1 1) (xlen s7.2.2.1))
                        (cond (bnot (xget s7.2.2.1 (i2n (iadd .i64 s7.2.1 1)) false))
                          (chk (okRoom (xlen (xapp s7.2.2.2.2 ((3, (s7.2.1, 0)) :: ([] : (List (Int × (Int × Int))))))) (xlen ((2, ((iadd .i64 s7.2.1 1), 0)) :: ([] : (List (Int × (Int × Int)))))) 24)
                          (some (.inl (s7.1, ((iadd .i64 s7.2.1 1), (s7.2.2.1, (s7.2.2.2.1, (xapp (xapp s7.2.2.2.2 ((3, (s7.2.1, 0)) :: ([] : (List (Int × (Int × Int)))))) ((2, ((iadd .i64 s7.2.1 1), 0)) :: ([] : (List (Int × (Int × Int)))))))))))))
                          (some (.inl (s7.1, ((iadd .i64 s7.2.1 1), (s7.2.2.1, (s7.2.2.2.1, (xapp s7.2.2.2.2 ((3, (s7.2.1, 0)) :: ([] : (List (Int × (Int × Int))))))))))))))
                        (some (.inl (s7.1, ((iadd .i64 s7.2.1 1), (s7.2.2.1, (s7.2.2.2.1, (xapp s7.2.2.2.2 ((3, (s7.2.1, 0)) :: ([] : (List (Int × (Int × Int))))))))))))))
                      (some (.inl (s7.1, ((iadd .i64 s7.2.1 1), (s7.2.2.1, (s7.2.2.2.1, (xapp s7.2.2.2.2 ((3, (s7.2.1, 0)) :: ([] : (List (Int × (Int × Int))))))))))))))))
                  (some (.inr (s7.2.2.2.2, 0)))))
                ((n2i (xlen s5.2.2.2.1)), (0, (s5.2.2.1, (s5.2.2.2.1, s5.2.2.2.2.1))))))))
            ((n2i (xlen x.2.2)), (0, (r3.2, (r4.2, (([] : (List (Int × (Int × Int)))), x.2.2))))))))))

noncomputable def F_l_eqCarryEvent (x : ((Int × (Int × Int)) × (Int × (Int × Int)))) : Option Bool :=
  (cond (ine x.1.1 x.2.1)
    (some false)
    (cond (ine x.1.2.1 x.2.2.1)
      (some false)
      (cond (ine x.1.2.2 x.2.2.2)
        (some false)
        (some true))))

noncomputable def F_l_eqCarryEventS (x : ((List (Int × (Int × Int))) × (List (Int × (Int × Int))))) : Option Bool :=
  (cond (ine (n2i (xlen x.1)) (n2i (xlen x.2)))
    (some false)
    (iter (σ := (Int × ((List (Int × (Int × Int))) × (List (Int × (Int × Int)))))) (fun s2 =>
      (cond (ilt s2.1 (n2i (xlen s2.2.1)))
        (chk (okIx s2.1 (xlen s2.2.1))
        (chk (okIx s2.1 (xlen s2.2.2))
        (Option.bind (F_l_eqCarryEvent (((xget s2.2.1 (i2n s2.1) (0, (0, 0))).1, (xget s2.2.1 (i2n s2.1) (0, (0, 0))).2), ((xget s2.2.2 (i2n s2.1) (0, (0, 0))).1, (xget s2.2.2 (i2n s2.1) (0, (0, 0))).2))) fun r4 =>
          (cond (bnot r4)
            (some (.inr false))
            (some (.inl ((iadd .i64 s2.1 1), s2.2)))))))
        (some (.inr true))))
      (0, x)))

noncomputable def F_l_eqInt64S (x : ((List Int) × (List Int))) : Option Bool :=
  (cond (ine (n2i (xlen x.1)) (n2i (xlen x.2)))
    (some false)
    (iter (σ := (Int × ((List Int) × (List Int)))) (fun s2 =>
      (cond (ilt s2.1 (n2i (xlen s2.2.1)))
        (chk (okIx s2.1 (xlen s2.2.1))
        (chk (okIx s2.1 (xlen s2.2.2))
        (cond (ine (xget s2.2.1 (i2n s2.1) 0) (xget s2.2.2 (i2n s2.1) 0))
          (some (.inr false))
          (some (.inl ((iadd .i64 s2.1 1), s2.2))))))
        (some (.inr true))))
      (0, x)))

noncomputable def F_l_eqRegister (x : ((Int × (List Int)) × (Int × (List Int)))) : Option Bool :=
  (cond (ine x.1.1 x.2.1)
    (some false)
    (Option.bind (F_l_eqInt64S (x.1.2, x.2.2)) fun r2 =>
      (cond (bnot r2)
        (some false)
        (some true))))

noncomputable def F_l_markInt64S (x : ((List Int) × Int)) : Option (Int × (List Int)) :=
  (iter (σ := (Int × (Int × (List Int)))) (fun s1 =>
    (cond (ilt s1.2.1 (n2i (xlen s1.2.2)))
      (chk (okIx s1.2.1 (xlen s1.2.2))
      (some (.inl ((iadd .i64 s1.1 1), ((iadd .i64 s1.2.1 1), (xset s1.2.2 (i2n s1.2.1) s1.1))))))
      (some (.inr (s1.1, s1.2.2)))))
    (x.2, (0, x.1)))

noncomputable def F_l_markRegister (x : ((Int × (List Int)) × Int)) : Option (Int × (Int × (List Int))) :=
  (Option.bind (F_l_markInt64S (x.1.2, x.2)) fun r1 =>
    (some (r1.1, (x.1.1, r1.2))))

noncomputable def F_l_markCarryEventS (x : ((List (Int × (Int × Int))) × Int)) : Option (Int × (List (Int × (Int × Int)))) :=
  (iter (σ := (Int × (Int × (List (Int × (Int × Int)))))) (fun s1 =>
    (cond (ilt s1.2.1 (n2i (xlen s1.2.2)))
      (chk (okIx s1.2.1 (xlen s1.2.2))
      (chk (okIx s1.2.1 (xlen (xset s1.2.2 (i2n s1.2.1) (s1.1, (xget s1.2.2 (i2n s1.2.1) (0, (0, 0))).2))))
      (chk (okIx s1.2.1 (xlen (xset (xset s1.2.2 (i2n s1.2.1) (s1.1, (xget s1.2.2 (i2n s1.2.1) (0, (0, 0))).2)) (i2n s1.2.1) ((xget (xset s1.2.2 (i2n s1.2.1) (s1.1, (xget s1.2.2 (i2n s1.2.1) (0, (0, 0))).2)) (i2n s1.2.1) (0, (0, 0))).1, ((iadd .i64 s1.1 1), (xget (xset s1.2.2 (i2n s1.2.1) (s1.1, (xget s1.2.2 (i2n s1.2.1) (0, (0, 0))).2)) (i2n s1.2.1) (0, (0, 0))).2.2)))))
      (some (.inl ((iadd .i64 (iadd .i64 (iadd .i64 s1.1 1) 1) 1), ((iadd .i64 s1.2.1 1), (xset (xset (xset s1.2.2 (i2n s1.2.1) (s1.1, (xget s1.2.2 (i2n s1.2.1) (0, (0, 0))).2)) (i2n s1.2.1) ((xget (xset s1.2.2 (i2n s1.2.1) (s1.1, (xget s1.2.2 (i2n s1.2.1) (0, (0, 0))).2)) (i2n s1.2.1) (0, (0, 0))).1, ((iadd .i64 s1.1 1), (xget (xset s1.2.2 (i2n s1.2.1) (s1.1, (xget s1.2.2 (i2n s1.2.1) (0, (0, 0))).2)) (i2n s1.2.1) (0, (0, 0))).2.2))) (i2n s1.2.1) ((xget (xset (xset s1.2.2 (i2n s1.2.1) (s1.1, (xget s1.2.2 (i2n s1.2.1) (0, (0, 0))).2)) (i2n s1.2.1) ((xget (xset s1.2.2 (i2n s1.2.1) (s1.1, (xget s1.2.2 (i2n s1.2.1) (0, (0, 0))).2)) (i2n s1.2.1) (0, (0, 0))).1, ((iadd .i64 s1.1 1), (xget (xset s1.2.2 (i2n s1.2.1) (s1.1, (xget s1.2.2 (i2n s1.2.1) (0, (0, 0))).2)) (i2n s1.2.1) (0, (0, 0))).2.2))) (i2n s1.2.1) (0, (0, 0))).1, ((xget (xset (xset s1.2.2 (i2n s1.2.1) (s1.1, (xget s1.2.2 (i2n s1.2.1) (0, (0, 0))).2)) (i2n s1.2.1) ((xget (xset s1.2.2 (i2n s1.2.1) (s1.1, (xget s1.2.2 (i2n s1.2.1) (0, (0, 0))).2)) (i2n s1.2.1) (0, (0, 0))).1, ((iadd .i64 s1.1 1), (xget (xset s1.2.2 (i2n s1.2.1) (s1.1, (xget s1.2.2 (i2n s1.2.1) (0, (0, 0))).2)) (i2n s1.2.1) (0, (0, 0))).2.2))) (i2n s1.2.1) (0, (0, 0))).2.1, (iadd .i64 (iadd .i64 s1.1 1) 1)))))))))))
      (some (.inr (s1.1, s1.2.2)))))
    (x.2, (0, x.1)))

noncomputable def F_l_heldCarryEventS (x : ((List (Int × (Int × Int))) × Int)) : Option Int :=
  (iter (σ := (Int × (Int × (List (Int × (Int × Int)))))) (fun s1 =>
    (cond (ilt s1.2.1 (n2i (xlen s1.2.2)))
      (chk (okIx s1.2.1 (xlen s1.2.2))
      (cond (ine (xget s1.2.2 (i2n s1.2.1) (0, (0, 0))).1 s1.1)
        (some (.inr (-1)))
        (chk (okIx s1.2.1 (xlen s1.2.2))
        (cond (ine (xget s1.2.2 (i2n s1.2.1) (0, (0, 0))).2.1 (iadd .i64 s1.1 1))
          (some (.inr (-1)))
          (chk (okIx s1.2.1 (xlen s1.2.2))
          (cond (ine (xget s1.2.2 (i2n s1.2.1) (0, (0, 0))).2.2 (iadd .i64 (iadd .i64 s1.1 1) 1))
            (some (.inr (-1)))
            (some (.inl ((iadd .i64 (iadd .i64 (iadd .i64 s1.1 1) 1) 1), ((iadd .i64 s1.2.1 1), s1.2.2))))))))))
      (some (.inr s1.1))))
    (x.2, (0, x.1)))

noncomputable def F_l_FnExactEventsOf (x : ((Int × (List Int)) × (Int × (List Int)))) : Option Bool :=
  (Option.bind (F_l_szRegister (x.1, 1048576)) fun r1 =>
    (cond (ilt r1 0)
      (some true)
      (Option.bind (F_l_szRegister (x.2, r1)) fun r3 =>
        (cond (ilt r3 0)
          (some true)
          (Option.bind (F_l_toRegister x.1) fun r5 =>
            (Option.bind (F_l_toRegister x.2) fun r6 =>
              (Option.bind (F_s_EventsOf (r5, r6)) fun r7 =>
                (Option.bind (F_l_toRegister x.1) fun r8 =>
                  (Option.bind (F_l_toRegister x.2) fun r9 =>
                    (Option.bind (F_i_EventsOf (r8, r9)) fun r10 =>
                      (Option.bind (F_l_eqCarryEventS (r10.1, r7.1)) fun r11 =>
                        (cond (bnot r11)
                          (some false)
                          (cond (ine r10.2 r7.2)
                            (some false)
                            (Option.bind (F_l_toRegister x.1) fun r14 =>
                              (Option.bind (F_l_eqRegister (r8, r14)) fun r15 =>
                                (cond (bnot r15)
                                  (some false)
                                  (Option.bind (F_l_toRegister x.2) fun r17 =>
                                    (Option.bind (F_l_eqRegister (r9, r17)) fun r18 =>
                                      (cond (bnot r18)
                                        (some false)
                                        (Option.bind (F_l_markRegister (r8, 1)) fun r20 =>
                                          (Option.bind (F_l_markRegister (r9, r20.1)) fun r21 =>
                                            (cond (ilt r21.1 0)
                                              (some false)
                                              (Option.bind (F_l_eqCarryEventS (r10.1, r7.1)) fun r23 =>
                                                (cond (bnot r23)
                                                  (some false)
                                                  (cond (ine r10.2 r7.2)
                                                    (some false)
                                                    (Option.bind (F_l_markCarryEventS (r10.1, 1)) fun r26 =>
                                                      (Option.bind (F_l_heldCarryEventS (r26.2, 1)) fun r27 =>
                                                        (cond (ilt r27 0)
                                                          (some false)
                                                          (cond (ine r27 r26.1)
                                                            (some false)
                                                            (Option.bind (F_l_toRegister x.1) fun r30 =>
                                                              (Option.bind (F_l_toRegister x.2) fun r31 =>
                                                                (Option.bind (F_i_EventsOf (r30, r31)) fun r32 =>
                                                                  (Option.bind (F_l_eqCarryEventS (r32.1, r7.1)) fun r33 =>
                                                                    (cond (bnot r33)
                                                                      (some false)
                                                                      (cond (ine r32.2 r7.2)
                                                                        (some false)
                                                                        (Option.bind (F_l_heldCarryEventS (r26.2, 1)) fun r36 =>
                                                                          (cond (ilt r36 0)
                                                                            (some false)
                                                                            (cond (ine r36 r26.1)
                                                                              (some false)
                                                                              (some true)))))))))))))))))))))))))))))))))))))))

noncomputable def F_l_a2Long (x : ((List Int) × (List Int))) : Option Bool :=
  (cond (igt (n2i (xlen x.1)) 3000)
    (some true)
    (some (igt (n2i (xlen x.2)) 3000)))

noncomputable def F_s_l10Power (x : (Int × Int)) : Option Int :=
  (iter (σ := (Int × (Int × Int))) (fun s1 =>
    (cond (igt s1.2.1 0)
      (Option.bind (F_s_l00Min (1000000000002, (imul .i64 s1.2.2 s1.1))) fun r3 =>
        (some (.inl (s1.1, ((isub .i64 s1.2.1 1), r3)))))
      (some (.inr s1.2.2))))
    (x.1, (x.2, 1)))

noncomputable def F_s_l02New (x : (Int × (Int × Int))) : Option ((Int × (List Int)) × Int) :=
  (iter (σ := (Int × (Int × (Int × (Int × (Int × ((List Int) × (Int × (List Int))))))))) (fun s1 =>
    (cond (ilt s1.2.2.2.1 s1.2.1)
      (chk (okDiv s1.1)
      (chk (okRoom (xlen s1.2.2.2.2.2.2.2) (xlen ((irem s1.2.2.1 s1.1) :: ([] : (List Int)))) 8)
      (chk (okDiv s1.1)
      (some (.inl (s1.1, (s1.2.1, ((iquo .i64 s1.2.2.1 s1.1), ((iadd .i64 s1.2.2.2.1 1), (s1.2.2.2.2.1, (s1.2.2.2.2.2.1, (s1.2.2.2.2.2.2.1, (xapp s1.2.2.2.2.2.2.2 ((irem s1.2.2.1 s1.1) :: ([] : (List Int))))))))))))))))
      (some (.inr (s1.2.2.2.2.2.2, s1.2.2.1)))))
    (x.1, (x.2.1, (x.2.2, (0, (0, (([] : (List Int)), (x.1, ([] : (List Int))))))))))

noncomputable def F_s_l10Move (x : ((Int × (List Int)) × Int)) : Option ((Int × (List Int)) × Bool) :=
  (Option.bind (F_s_l10Power (x.1.1, (n2i (xlen x.1.2)))) fun r1 =>
    (Option.bind (F_s_l02Value x.1) fun r2 =>
      (chk (okDiv r1)
      (chk (okDiv r1)
      (Option.bind (F_s_l02New (x.1.1, ((n2i (xlen x.1.2)), (irem (iadd .i64 (irem (iadd .i64 r2 x.2) r1) r1) r1)))) fun r3 =>
        (Option.bind (F_s_l00In ((iadd .i64 r2 x.2), (0, (isub .i64 r1 1)))) fun r4 =>
          (some (r3.1, (bnot r4)))))))))

noncomputable def F_s_l10Turn (x : (((Int × (List Int)) × ((Int × (List Int)) × ((Int × (List Int)) × Int))) × Int)) : Option (Bool × ((Int × (List Int)) × ((Int × (List Int)) × ((Int × (List Int)) × Int)))) :=
  (Option.bind (F_s_l10Power (x.1.1.1, x.1.2.2.2)) fun r1 =>
    (Option.bind (F_s_l02Value x.1.1) fun r2 =>
      (Option.bind (F_s_l10Move (x.1.2.1, (imul .i64 (imul .i64 x.2 r1) r2))) fun r3 =>
        (Option.bind (F_s_l10Move (x.1.2.2.1, (imul .i64 x.2 r1))) fun r4 =>
          (some (r3.2, (x.1.1, (r3.1, (r4.1, x.1.2.2.2)))))))))

noncomputable def F_s_l10Places (x : ((Int × (List Int)) × ((Int × (List Int)) × ((Int × (List Int)) × Int)))) : Option Int :=
  (Option.bind (F_s_l00Min ((n2i (xlen x.2.2.1.2)), (iadd .i64 (isub .i64 (n2i (xlen x.2.1.2)) (n2i (xlen x.1.2))) 1))) fun r1 =>
    (some r1))

noncomputable def F_s_l10Shift (x : (((Int × (List Int)) × ((Int × (List Int)) × ((Int × (List Int)) × Int))) × Int)) : Option (Bool × ((Int × (List Int)) × ((Int × (List Int)) × ((Int × (List Int)) × Int)))) :=
  (Option.bind (F_s_l10Places (x.1.1, (x.1.2.1, (x.1.2.2.1, x.1.2.2.2)))) fun r1 =>
    (Option.bind (F_s_l00In ((iadd .i64 x.1.2.2.2 x.2), (0, (isub .i64 r1 1)))) fun r2 =>
      (cond (bnot r2)
        (some (true, (x.1.1, (x.1.2.1, (x.1.2.2.1, x.1.2.2.2)))))
        (some (false, (x.1.1, (x.1.2.1, (x.1.2.2.1, (iadd .i64 x.1.2.2.2 x.2)))))))))

noncomputable def F_s_l10Zero (x : ((Int × (List Int)) × ((Int × (List Int)) × ((Int × (List Int)) × Int)))) : Option ((Int × (List Int)) × ((Int × (List Int)) × ((Int × (List Int)) × Int))) :=
  (iter (σ := (Int × (Int × (Int × (Int × (Int × ((List Int) × ((List Int) × (List Int))))))))) (fun s1 =>
    (cond (ilt s1.1 (n2i (xlen s1.2.2.2.2.2.1)))
      (chk (okIx s1.1 (xlen s1.2.2.2.2.2.1))
      (some (.inl ((iadd .i64 s1.1 1), (s1.2.1, (s1.2.2.1, (s1.2.2.2.1, (s1.2.2.2.2.1, ((xset s1.2.2.2.2.2.1 (i2n s1.1) 0), s1.2.2.2.2.2.2)))))))))
      (some (.inr ((s1.2.1, s1.2.2.2.2.2.1), ((s1.2.2.1, s1.2.2.2.2.2.2.1), ((s1.2.2.2.1, s1.2.2.2.2.2.2.2), s1.2.2.2.2.1)))))))
    (0, (x.1.1, (x.2.1.1, (x.2.2.1.1, (x.2.2.2, (x.1.2, (x.2.1.2, x.2.2.1.2))))))))

noncomputable def F_s_l10Zero_b (x : ((Int × (List Int)) × ((Int × (List Int)) × ((Int × (List Int)) × Int)))) : Option ((Int × (List Int)) × ((Int × (List Int)) × ((Int × (List Int)) × Int))) :=
  (iter (σ := (Int × (Int × (Int × (Int × (Int × ((List Int) × ((List Int) × (List Int))))))))) (fun s1 =>
    (cond (ilt s1.1 (n2i (xlen s1.2.2.2.2.2.2.1)))
      (chk (okIx s1.1 (xlen s1.2.2.2.2.2.2.1))
      (some (.inl ((iadd .i64 s1.1 1), (s1.2.1, (s1.2.2.1, (s1.2.2.2.1, (s1.2.2.2.2.1, (s1.2.2.2.2.2.1, ((xset s1.2.2.2.2.2.2.1 (i2n s1.1) 0), s1.2.2.2.2.2.2.2))))))))))
      (some (.inr ((s1.2.1, s1.2.2.2.2.2.1), ((s1.2.2.1, s1.2.2.2.2.2.2.1), ((s1.2.2.2.1, s1.2.2.2.2.2.2.2), s1.2.2.2.2.1)))))))
    (0, (x.1.1, (x.2.1.1, (x.2.2.1.1, (x.2.2.2, (x.1.2, (x.2.1.2, x.2.2.1.2))))))))

noncomputable def F_s_l10Zero_c (x : ((Int × (List Int)) × ((Int × (List Int)) × ((Int × (List Int)) × Int)))) : Option ((Int × (List Int)) × ((Int × (List Int)) × ((Int × (List Int)) × Int))) :=
  (iter (σ := (Int × (Int × (Int × (Int × (Int × ((List Int) × ((List Int) × (List Int))))))))) (fun s1 =>
    (cond (ilt s1.1 (n2i (xlen s1.2.2.2.2.2.2.2)))
      (chk (okIx s1.1 (xlen s1.2.2.2.2.2.2.2))
      (some (.inl ((iadd .i64 s1.1 1), (s1.2.1, (s1.2.2.1, (s1.2.2.2.1, (s1.2.2.2.2.1, (s1.2.2.2.2.2.1, (s1.2.2.2.2.2.2.1, (xset s1.2.2.2.2.2.2.2 (i2n s1.1) 0)))))))))))
      (some (.inr ((s1.2.1, s1.2.2.2.2.2.1), ((s1.2.2.1, s1.2.2.2.2.2.2.1), ((s1.2.2.2.1, s1.2.2.2.2.2.2.2), s1.2.2.2.2.1)))))))
    (0, (x.1.1, (x.2.1.1, (x.2.2.1.1, (x.2.2.2, (x.1.2, (x.2.1.2, x.2.2.1.2))))))))

noncomputable def F_s_l10Do (x : (((Int × (List Int)) × ((Int × (List Int)) × ((Int × (List Int)) × Int))) × Int)) : Option (Bool × ((Int × (List Int)) × ((Int × (List Int)) × ((Int × (List Int)) × Int)))) :=
  (cond (ieq x.2 1)
    (Option.bind (F_s_l10Turn ((x.1.1, (x.1.2.1, (x.1.2.2.1, x.1.2.2.2))), 1)) fun r2 =>
      (some (r2.1, (r2.2.1, (r2.2.2.1, (r2.2.2.2.1, r2.2.2.2.2))))))
    (cond (ieq x.2 2)
      (Option.bind (F_s_l10Turn ((x.1.1, (x.1.2.1, (x.1.2.2.1, x.1.2.2.2))), (-1))) fun r3 =>
        (some (r3.1, (r3.2.1, (r3.2.2.1, (r3.2.2.2.1, r3.2.2.2.2))))))
      (cond (ieq x.2 3)
        (Option.bind (F_s_l10Shift ((x.1.1, (x.1.2.1, (x.1.2.2.1, x.1.2.2.2))), 1)) fun r4 =>
          (some (r4.1, (r4.2.1, (r4.2.2.1, (r4.2.2.2.1, r4.2.2.2.2))))))
        (cond (ieq x.2 4)
          (Option.bind (F_s_l10Shift ((x.1.1, (x.1.2.1, (x.1.2.2.1, x.1.2.2.2))), (-1))) fun r5 =>
            (some (r5.1, (r5.2.1, (r5.2.2.1, (r5.2.2.2.1, r5.2.2.2.2))))))
          (cond (ieq x.2 5)
            (Option.bind (F_s_l10Zero_b (x.1.1, (x.1.2.1, (x.1.2.2.1, x.1.2.2.2)))) fun r6 =>
              (Option.bind (F_s_l10Zero_c (r6.1, (r6.2.1, (r6.2.2.1, r6.2.2.2)))) fun r7 =>
                (some (false, (r7.1, (r7.2.1, (r7.2.2.1, r7.2.2.2)))))))
            (Option.bind (F_s_l10Zero (x.1.1, (x.1.2.1, (x.1.2.2.1, x.1.2.2.2)))) fun r6 =>
              (some (false, (r6.1, (r6.2.1, (r6.2.2.1, r6.2.2.2)))))))))))

noncomputable def F_s_l00Src_next (x : ((List Int) × (Int × Int))) : Option (Int × ((List Int) × (Int × Int))) :=
  (cond (ilt x.2.1 (n2i (xlen x.1)))
    (chk (okIx x.2.1 (xlen x.1))
    (cond (ile (iadd .i64 x.2.1 1) (n2i (xlen x.1)))
      (some ((iwrap .i64 (xget x.1 (i2n x.2.1) 0)), (x.1, ((iadd .i64 x.2.1 1), (iadd .u64 (iadd .u64 (imul .u64 x.2.2 6364136223846793005) (iwrap .u64 (iwrap .i64 (xget x.1 (i2n x.2.1) 0)))) 1442695040888963407)))))
      (chk (okShift .u64 40)
      (some ((iwrap .i64 (ibit .and .u64 (ishr (iadd .u64 (iadd .u64 (imul .u64 x.2.2 6364136223846793005) (iwrap .u64 (iwrap .i64 (xget x.1 (i2n x.2.1) 0)))) 1442695040888963407) 40) 255)), (x.1, ((iadd .i64 x.2.1 1), (iadd .u64 (iadd .u64 (imul .u64 x.2.2 6364136223846793005) (iwrap .u64 (iwrap .i64 (xget x.1 (i2n x.2.1) 0)))) 1442695040888963407))))))))
    (cond (ile (iadd .i64 x.2.1 1) (n2i (xlen x.1)))
      (some (0, (x.1, ((iadd .i64 x.2.1 1), (iadd .u64 (iadd .u64 (imul .u64 x.2.2 6364136223846793005) (iwrap .u64 0)) 1442695040888963407)))))
      (chk (okShift .u64 40)
      (some ((iwrap .i64 (ibit .and .u64 (ishr (iadd .u64 (iadd .u64 (imul .u64 x.2.2 6364136223846793005) (iwrap .u64 0)) 1442695040888963407) 40) 255)), (x.1, ((iadd .i64 x.2.1 1), (iadd .u64 (iadd .u64 (imul .u64 x.2.2 6364136223846793005) (iwrap .u64 0)) 1442695040888963407))))))))

noncomputable def F_s_l00Src_pick (x : (((List Int) × (Int × Int)) × Int)) : Option (Int × ((List Int) × (Int × Int))) :=
  (cond (ile x.2 1)
    (some (0, (x.1.1, x.1.2)))
    (Option.bind (F_s_l00Src_next (x.1.1, x.1.2)) fun r2 =>
      (cond (igt x.2 200)
        (Option.bind (F_s_l00Src_next (r2.2.1, r2.2.2)) fun r4 =>
          (chk (okDiv x.2)
          (some ((irem (iadd .i64 (imul .i64 r2.1 256) r4.1) x.2), (r4.2.1, r4.2.2)))))
        (chk (okDiv x.2)
        (some ((irem r2.1 x.2), (r2.2.1, r2.2.2)))))))

noncomputable def F_s_l00Src_among (x : (((List Int) × (Int × Int)) × (List Int))) : Option (Int × ((List Int) × (Int × Int))) :=
  (Option.bind (F_s_l00Src_pick ((x.1.1, x.1.2), (n2i (xlen x.2)))) fun r1 =>
    (chk (okIx r1.1 (xlen x.2))
    (some ((xget x.2 (i2n r1.1) 0), (r1.2.1, r1.2.2)))))

noncomputable def F_s_l10New (x : (Int × (Int × (Int × Int)))) : Option ((Int × (List Int)) × ((Int × (List Int)) × ((Int × (List Int)) × Int))) :=
  (Option.bind (F_s_l02New (x.1, (x.2.1, 0))) fun r1 =>
    (Option.bind (F_s_l02New (x.1, (x.2.2.1, 0))) fun r2 =>
      (Option.bind (F_s_l02New (x.1, (x.2.2.2, 0))) fun r3 =>
        (some (r1.1, (r2.1, (r3.1, 0)))))))

noncomputable def F_s_l00Src_one (x : (((List Int) × (Int × Int)) × Int)) : Option (Bool × ((List Int) × (Int × Int))) :=
  (Option.bind (F_s_l00Src_pick ((x.1.1, x.1.2), x.2)) fun r1 =>
    (some ((ieq r1.1 0), (r1.2.1, r1.2.2))))

noncomputable def F_s_l02DrawDigits (x : (((List Int) × (Int × Int)) × (Int × Int))) : Option ((List Int) × ((List Int) × (Int × Int))) :=
  (iter (σ := (Int × (Int × (Int × (Int × (Int × ((List Int) × (List Int)))))))) (fun s1 =>
    (cond (ilt s1.2.2.1 s1.2.1)
      (Option.bind (F_s_l00Src_pick ((s1.2.2.2.2.2.1, (s1.2.2.2.1, s1.2.2.2.2.1)), s1.1)) fun r3 =>
        (Option.bind (F_s_l00Src_one ((r3.2.1, r3.2.2), 3)) fun r4 =>
          (cond r4.1
            (chk (okRoom (xlen s1.2.2.2.2.2.2) (xlen ((isub .i64 s1.1 1) :: ([] : (List Int)))) 8)
            (some (.inl (s1.1, (s1.2.1, ((iadd .i64 s1.2.2.1 1), (r4.2.2.1, (r4.2.2.2, (r4.2.1, (xapp s1.2.2.2.2.2.2 ((isub .i64 s1.1 1) :: ([] : (List Int)))))))))))))
            (chk (okRoom (xlen s1.2.2.2.2.2.2) (xlen (r3.1 :: ([] : (List Int)))) 8)
            (some (.inl (s1.1, (s1.2.1, ((iadd .i64 s1.2.2.1 1), (r4.2.2.1, (r4.2.2.2, (r4.2.1, (xapp s1.2.2.2.2.2.2 (r3.1 :: ([] : (List Int))))))))))))))))
      (some (.inr (s1.2.2.2.2.2.2, (s1.2.2.2.2.2.1, (s1.2.2.2.1, s1.2.2.2.2.1)))))))
    (x.2.1, (x.2.2, (0, (x.1.2.1, (x.1.2.2, (x.1.1, ([] : (List Int)))))))))

noncomputable def F_s_l10Draw (x : ((List Int) × (Int × Int))) : Option (((Int × (List Int)) × ((Int × (List Int)) × ((Int × (List Int)) × Int))) × ((List Int) × (Int × Int))) :=
  (Option.bind (F_s_l00Src_among ((x.1, x.2), (10 :: (10 :: (10 :: (2 :: (3 :: (8 :: (12 :: ([] : (List Int))))))))))) fun r1 =>
    (Option.bind (F_s_l00Src_pick ((r1.2.1, r1.2.2), 4)) fun r2 =>
      (Option.bind (F_s_l00Src_pick ((r2.2.1, r2.2.2), 5)) fun r3 =>
        (Option.bind (F_s_l00Src_pick ((r3.2.1, r3.2.2), 5)) fun r4 =>
          (Option.bind (F_s_l10New (r1.1, ((iadd .i64 1 r2.1), ((iadd .i64 (iadd .i64 1 r2.1) r3.1), (iadd .i64 1 r4.1))))) fun r5 =>
            (Option.bind (F_s_l02DrawDigits ((r4.2.1, r4.2.2), (r1.1, (iadd .i64 1 r2.1)))) fun r6 =>
              (Option.bind (F_s_l00Src_one ((r6.2.1, r6.2.2), 2)) fun r7 =>
                (cond r7.1
                  (Option.bind (F_s_l02DrawDigits ((r7.2.1, r7.2.2), (r1.1, (iadd .i64 (iadd .i64 1 r2.1) r3.1)))) fun r9 =>
                    (Option.bind (F_s_l10Places ((r5.1.1, r6.1), ((r5.2.1.1, r9.1), (r5.2.2.1, r5.2.2.2)))) fun r10 =>
                      (Option.bind (F_s_l00Src_pick ((r9.2.1, r9.2.2), r10)) fun r11 =>
                        (Option.bind (F_s_l00Src_pick ((r11.2.1, r11.2.2), 5)) fun r12 =>
                          (iter (σ := (Int × (Int × (Int × ((List Int) × (Int × (Int × (Int × (Int × ((List Int) × ((List Int) × ((List Int) × (Int × (Int × (Int × (Int × ((List Int) × ((List Int) × (List Int))))))))))))))))))) (fun s13 =>
                            (cond (igt s13.1 0)
                              (Option.bind (F_s_l00Src_pick ((s13.2.2.2.1, (s13.2.1, s13.2.2.1)), 4)) fun r15 =>
                                (Option.bind (F_s_l10Do (((s13.2.2.2.2.2.2.2.2.2.2.2.1, s13.2.2.2.2.2.2.2.2.2.2.2.2.2.2.2.1), ((s13.2.2.2.2.2.2.2.2.2.2.2.2.1, s13.2.2.2.2.2.2.2.2.2.2.2.2.2.2.2.2.1), ((s13.2.2.2.2.2.2.2.2.2.2.2.2.2.1, s13.2.2.2.2.2.2.2.2.2.2.2.2.2.2.2.2.2), s13.2.2.2.2.2.2.2.2.2.2.2.2.2.2.1))), (iadd .i64 1 r15.1))) fun r16 =>
                                  (some (.inl ((isub .i64 s13.1 1), (r15.2.2.1, (r15.2.2.2, (r15.2.1, (s13.2.2.2.2.1, (s13.2.2.2.2.2.1, (s13.2.2.2.2.2.2.1, (s13.2.2.2.2.2.2.2.1, (s13.2.2.2.2.2.2.2.2.1, (s13.2.2.2.2.2.2.2.2.2.1, (s13.2.2.2.2.2.2.2.2.2.2.1, (r16.2.1.1, (r16.2.2.1.1, (r16.2.2.2.1.1, (r16.2.2.2.2, (r16.2.1.2, (r16.2.2.1.2, r16.2.2.2.1.2)))))))))))))))))))))
                              (some (.inr (((s13.2.2.2.2.2.2.2.2.2.2.2.1, s13.2.2.2.2.2.2.2.2.2.2.2.2.2.2.2.1), ((s13.2.2.2.2.2.2.2.2.2.2.2.2.1, s13.2.2.2.2.2.2.2.2.2.2.2.2.2.2.2.2.1), ((s13.2.2.2.2.2.2.2.2.2.2.2.2.2.1, s13.2.2.2.2.2.2.2.2.2.2.2.2.2.2.2.2.2), s13.2.2.2.2.2.2.2.2.2.2.2.2.2.2.1))), (s13.2.2.2.1, (s13.2.1, s13.2.2.1)))))))
                            (r12.1, (r12.2.2.1, (r12.2.2.2, (r12.2.1, (0, (0, (0, (0, (([] : (List Int)), (([] : (List Int)), (([] : (List Int)), (r5.1.1, (r5.2.1.1, (r5.2.2.1.1, (r11.1, (r6.1, (r9.1, r5.2.2.1.2))))))))))))))))))))))
                  (Option.bind (F_s_l10Places ((r5.1.1, r6.1), (r5.2.1, (r5.2.2.1, r5.2.2.2)))) fun r9 =>
                    (Option.bind (F_s_l00Src_pick ((r7.2.1, r7.2.2), r9)) fun r10 =>
                      (Option.bind (F_s_l00Src_pick ((r10.2.1, r10.2.2), 5)) fun r11 =>
                        (iter (σ := (Int × (Int × (Int × ((List Int) × (Int × (Int × (Int × (Int × ((List Int) × ((List Int) × ((List Int) × (Int × (Int × (Int × (Int × ((List Int) × ((List Int) × (List Int))))))))))))))))))) (fun s12 =>
                          (cond (igt s12.1 0)
                            (Option.bind (F_s_l00Src_pick ((s12.2.2.2.1, (s12.2.1, s12.2.2.1)), 4)) fun r14 =>
                              (Option.bind (F_s_l10Do (((s12.2.2.2.2.2.2.2.2.2.2.2.1, s12.2.2.2.2.2.2.2.2.2.2.2.2.2.2.2.1), ((s12.2.2.2.2.2.2.2.2.2.2.2.2.1, s12.2.2.2.2.2.2.2.2.2.2.2.2.2.2.2.2.1), ((s12.2.2.2.2.2.2.2.2.2.2.2.2.2.1, s12.2.2.2.2.2.2.2.2.2.2.2.2.2.2.2.2.2), s12.2.2.2.2.2.2.2.2.2.2.2.2.2.2.1))), (iadd .i64 1 r14.1))) fun r15 =>
                                (some (.inl ((isub .i64 s12.1 1), (r14.2.2.1, (r14.2.2.2, (r14.2.1, (s12.2.2.2.2.1, (s12.2.2.2.2.2.1, (s12.2.2.2.2.2.2.1, (s12.2.2.2.2.2.2.2.1, (s12.2.2.2.2.2.2.2.2.1, (s12.2.2.2.2.2.2.2.2.2.1, (s12.2.2.2.2.2.2.2.2.2.2.1, (r15.2.1.1, (r15.2.2.1.1, (r15.2.2.2.1.1, (r15.2.2.2.2, (r15.2.1.2, (r15.2.2.1.2, r15.2.2.2.1.2)))))))))))))))))))))
                            (some (.inr (((s12.2.2.2.2.2.2.2.2.2.2.2.1, s12.2.2.2.2.2.2.2.2.2.2.2.2.2.2.2.1), ((s12.2.2.2.2.2.2.2.2.2.2.2.2.1, s12.2.2.2.2.2.2.2.2.2.2.2.2.2.2.2.2.1), ((s12.2.2.2.2.2.2.2.2.2.2.2.2.2.1, s12.2.2.2.2.2.2.2.2.2.2.2.2.2.2.2.2.2), s12.2.2.2.2.2.2.2.2.2.2.2.2.2.2.1))), (s12.2.2.2.1, (s12.2.1, s12.2.2.1)))))))
                          (r11.1, (r11.2.2.1, (r11.2.2.2, (r11.2.1, (0, (0, (0, (0, (([] : (List Int)), (([] : (List Int)), (([] : (List Int)), (r5.1.1, (r5.2.1.1, (r5.2.2.1.1, (r10.1, (r6.1, (r5.2.1.2, r5.2.2.1.2)))))))))))))))))))))))))))))

noncomputable def F_s_l00From (x : (List Int)) : Option ((List Int) × (Int × Int)) :=
  (some (x, (0, 0)))

noncomputable def F_s_A2Machine (x : (List Int)) : Option ((Int × (List Int)) × ((Int × (List Int)) × ((Int × (List Int)) × Int))) :=
  (Option.bind (F_s_l00From x) fun r1 =>
    (Option.bind (F_s_l10Draw (r1.1, r1.2)) fun r2 =>
      (some (r2.1.1, (r2.1.2.1, (r2.1.2.2.1, r2.1.2.2.2))))))

noncomputable def F_s_l10Full (x : (Int × Int)) : Option Bool :=
  (Option.bind (F_s_l10Power x) fun r1 =>
    (some (ile (isub .i64 r1 1) 1000000000000)))

noncomputable def F_s_l10Ok (x : ((Int × (List Int)) × ((Int × (List Int)) × ((Int × (List Int)) × Int)))) : Option Bool :=
  (Option.bind (F_s_l02Ok x.1) fun r1 =>
    (cond (bnot r1)
      (some false)
      (Option.bind (F_s_l02Ok x.2.1) fun r3 =>
        (cond (bnot r3)
          (some false)
          (Option.bind (F_s_l02Ok x.2.2.1) fun r5 =>
            (cond (bnot r5)
              (some false)
              (cond (ine x.1.1 x.2.1.1)
                (some false)
                (cond (ine x.1.1 x.2.2.1.1)
                  (some false)
                  (Option.bind (F_s_l10Full (x.1.1, (n2i (xlen x.2.1.2)))) fun r9 =>
                    (cond (bnot r9)
                      (some false)
                      (Option.bind (F_s_l10Full (x.1.1, (n2i (xlen x.2.2.1.2)))) fun r11 =>
                        (cond (bnot r11)
                          (some false)
                          (cond (ile (n2i (xlen x.1.2)) (n2i (xlen x.2.1.2)))
                            (Option.bind (F_s_l10Places x) fun r14 =>
                              (Option.bind (F_s_l00In (x.2.2.2, (0, (isub .i64 r14 1)))) fun r15 =>
                                (some r15)))
                            (some false))))))))))))))

noncomputable def F_s_l10Kind (x : Int) : Option Bool :=
  (Option.bind (F_s_l00In (x, (1, 6))) fun r1 =>
    (some r1))

noncomputable def F_s_l10Own (x : ((Int × (List Int)) × ((Int × (List Int)) × ((Int × (List Int)) × Int)))) : Option ((Int × (List Int)) × ((Int × (List Int)) × ((Int × (List Int)) × Int))) :=
  (Option.bind (F_s_l02Own x.1) fun r1 =>
    (Option.bind (F_s_l02Own x.2.1) fun r2 =>
      (Option.bind (F_s_l02Own x.2.2.1) fun r3 =>
        (some (r1, (r2, (r3, x.2.2.2)))))))

noncomputable def F_s_DoStroke (x : (((Int × (List Int)) × ((Int × (List Int)) × ((Int × (List Int)) × Int))) × Int)) : Option (((Int × (List Int)) × ((Int × (List Int)) × ((Int × (List Int)) × Int))) × (Bool × Int)) :=
  (Option.bind (F_s_l10Ok (x.1.1, (x.1.2.1, (x.1.2.2.1, x.1.2.2.2)))) fun r1 =>
    (cond (bnot r1)
      (some (((0, ([] : (List Int))), ((0, ([] : (List Int))), ((0, ([] : (List Int))), 0))), (false, 1)))
      (Option.bind (F_s_l10Kind x.2) fun r3 =>
        (cond (bnot r3)
          (some (((0, ([] : (List Int))), ((0, ([] : (List Int))), ((0, ([] : (List Int))), 0))), (false, 2)))
          (Option.bind (F_s_l10Own (x.1.1, (x.1.2.1, (x.1.2.2.1, x.1.2.2.2)))) fun r5 =>
            (Option.bind (F_s_l10Do ((r5.1, (r5.2.1, (r5.2.2.1, r5.2.2.2))), x.2)) fun r6 =>
              (some ((r6.2.1, (r6.2.2.1, (r6.2.2.2.1, r6.2.2.2.2))), (r6.1, 0)))))))))

noncomputable def F_s_DoStroke_b (x : (((Int × (List Int)) × ((Int × (List Int)) × ((Int × (List Int)) × Int))) × Int)) : Option (((Int × (List Int)) × ((Int × (List Int)) × ((Int × (List Int)) × Int))) × (Bool × Int)) :=
  (Option.bind (F_s_l10Ok (x.1.1, (x.1.2.1, (x.1.2.2.1, x.1.2.2.2)))) fun r1 =>
    (cond (bnot r1)
      (some (((0, ([] : (List Int))), ((0, ([] : (List Int))), ((0, ([] : (List Int))), 0))), (false, 1)))
      (Option.bind (F_s_l10Kind x.2) fun r3 =>
        (cond (bnot r3)
          (some (((0, ([] : (List Int))), ((0, ([] : (List Int))), ((0, ([] : (List Int))), 0))), (false, 2)))
          (Option.bind (F_s_l10Own (x.1.1, (x.1.2.1, (x.1.2.2.1, x.1.2.2.2)))) fun r5 =>
            (Option.bind (F_s_l10Do ((r5.1, (r5.2.1, (r5.2.2.1, r5.2.2.2))), x.2)) fun r6 =>
              (some ((r6.2.1, (r6.2.2.1, (r6.2.2.2.1, r6.2.2.2.2))), (r6.1, 0)))))))))

noncomputable def F_l_a2At (x : ((List Int) × (Int × Int))) : Option Int :=
  (cond (ige x.2.1 (n2i (xlen x.1)))
    (some 0)
    (cond (ilt x.2.2 1)
      (some 0)
      (chk (okIx x.2.1 (xlen x.1))
      (chk (okDiv x.2.2)
      (some (irem (iwrap .i64 (xget x.1 (i2n x.2.1) 0)) x.2.2))))))

noncomputable def F_i_power (x : (Int × Int)) : Option Int :=
  (iter (σ := (Int × (Int × (Int × Int)))) (fun s1 =>
    (cond (ilt s1.2.2.2 s1.2.2.1)
      (cond (igt (isub .i64 (imul .i64 s1.2.1 s1.1) 1) 1000000000000)
        (some (.inr 0))
        (some (.inl (s1.1, ((imul .i64 s1.2.1 s1.1), (s1.2.2.1, (iadd .i64 s1.2.2.2 1)))))))
      (some (.inr s1.2.1))))
    (x.1, (1, (x.2, 0))))

noncomputable def F_i_Register_values (x : (Int × (List Int))) : Option Int :=
  (Option.bind (F_i_Register_width x) fun r1 =>
    (Option.bind (F_i_power (x.1, r1)) fun r2 =>
      (some r2)))

noncomputable def F_i_Machine_places (x : ((Int × (List Int)) × ((Int × (List Int)) × ((Int × (List Int)) × Int)))) : Option Int :=
  (Option.bind (F_i_Register_width x.2.1) fun r1 =>
    (Option.bind (F_i_Register_width x.1) fun r2 =>
      (Option.bind (F_i_Register_width x.2.2.1) fun r3 =>
        (some (imin (iadd .i64 (isub .i64 r1 r2) 1) r3)))))

noncomputable def F_i_ValidMachine (x : ((Int × (List Int)) × ((Int × (List Int)) × ((Int × (List Int)) × Int)))) : Option Bool :=
  (Option.bind (F_i_ValidRegister x.1) fun r1 =>
    (cond (bnot r1)
      (some false)
      (Option.bind (F_i_ValidRegister x.2.1) fun r3 =>
        (cond (bnot r3)
          (some false)
          (Option.bind (F_i_ValidRegister x.2.2.1) fun r5 =>
            (cond (bnot r5)
              (some false)
              (cond (ine x.1.1 x.2.1.1)
                (some false)
                (cond (ine x.2.2.1.1 x.2.1.1)
                  (some false)
                  (Option.bind (F_i_Register_values x.2.1) fun r9 =>
                    (cond (ieq r9 0)
                      (some false)
                      (Option.bind (F_i_Register_values x.2.2.1) fun r11 =>
                        (cond (ieq r11 0)
                          (some false)
                          (Option.bind (F_i_Register_width x.1) fun r13 =>
                            (Option.bind (F_i_Register_width x.2.1) fun r14 =>
                              (cond (ile r13 r14)
                                (Option.bind (F_i_Machine_places (x.1, (x.2.1, (x.2.2.1, x.2.2.2)))) fun r16 =>
                                  (Option.bind (F_i_between (x.2.2.2, (0, (isub .i64 r16 1)))) fun r17 =>
                                    (some r17)))
                                (some false))))))))))))))))

noncomputable def F_i_isStroke (x : Int) : Option Bool :=
  (Option.bind (F_i_between (x, (1, 6))) fun r1 =>
    (some r1))

noncomputable def F_i_Register_copied (x : (Int × (List Int))) : Option (Int × (List Int)) :=
  (Option.bind (F_i_copyNumbers x.2) fun r1 =>
    (some (x.1, r1)))

noncomputable def F_i_Machine_copied (x : ((Int × (List Int)) × ((Int × (List Int)) × ((Int × (List Int)) × Int)))) : Option ((Int × (List Int)) × ((Int × (List Int)) × ((Int × (List Int)) × Int))) :=
  (Option.bind (F_i_Register_copied x.1) fun r1 =>
    (Option.bind (F_i_Register_copied x.2.1) fun r2 =>
      (Option.bind (F_i_Register_copied x.2.2.1) fun r3 =>
        (some (r1, (r2, (r3, x.2.2.2)))))))

noncomputable def F_i_registerOf (x : (Int × (Int × Int))) : Option ((Int × (List Int)) × Bool) :=
  (iter (σ := (Int × (Int × (Int × (Int × (Int × ((List Int) × (Int × (List Int))))))))) (fun s1 =>
    (cond (ilt s1.2.2.2.1 s1.2.2.1)
      (chk (okDiv s1.1)
      (chk (okRoom (xlen s1.2.2.2.2.2.2.2) (xlen ((irem s1.2.1 s1.1) :: ([] : (List Int)))) 8)
      (chk (okDiv s1.1)
      (some (.inl (s1.1, ((iquo .i64 s1.2.1 s1.1), (s1.2.2.1, ((iadd .i64 s1.2.2.2.1 1), (s1.2.2.2.2.1, (s1.2.2.2.2.2.1, (s1.2.2.2.2.2.2.1, (xapp s1.2.2.2.2.2.2.2 ((irem s1.2.1 s1.1) :: ([] : (List Int))))))))))))))))
      (some (.inr (s1.2.2.2.2.2.2, (ieq s1.2.1 0))))))
    (x.1, (x.2.2, (x.2.1, (0, (0, (([] : (List Int)), (x.1, ([] : (List Int))))))))))

noncomputable def F_i_Register_withValue (x : ((Int × (List Int)) × Int)) : Option (Int × (List Int)) :=
  (Option.bind (F_i_Register_width x.1) fun r1 =>
    (Option.bind (F_i_registerOf (x.1.1, (r1, x.2))) fun r2 =>
      (some r2.1)))

noncomputable def F_i_Register_shifted (x : ((Int × (List Int)) × Int)) : Option ((Int × (List Int)) × Bool) :=
  (Option.bind (F_i_Register_values x.1) fun r1 =>
    (Option.bind (F_i_Register_value x.1) fun r2 =>
      (chk (okDiv r1)
      (chk (okDiv r1)
      (Option.bind (F_i_Register_withValue (x.1, (irem (iadd .i64 (irem (iadd .i64 r2 x.2) r1) r1) r1))) fun r3 =>
        (cond (ilt (iadd .i64 r2 x.2) 0)
          (some (r3, true))
          (some (r3, (ige (iadd .i64 r2 x.2) r1)))))))))

noncomputable def F_i_Machine_stroke (x : (((Int × (List Int)) × ((Int × (List Int)) × ((Int × (List Int)) × Int))) × Int)) : Option (((Int × (List Int)) × ((Int × (List Int)) × ((Int × (List Int)) × Int))) × Bool) :=
  (Option.bind (F_i_Machine_copied (x.1.1, (x.1.2.1, (x.1.2.2.1, x.1.2.2.2)))) fun r1 =>
    (Option.bind (F_i_power (x.1.2.1.1, x.1.2.2.2)) fun r2 =>
      (cond (ieq x.2 1)
        (Option.bind (F_i_Register_value x.1.1) fun r4 =>
          (Option.bind (F_i_Register_shifted (x.1.2.1, (imul .i64 r4 r2))) fun r5 =>
            (Option.bind (F_i_Register_shifted (x.1.2.2.1, r2)) fun r6 =>
              (some ((r1.1, (r5.1, (r6.1, r1.2.2.2))), r5.2)))))
        (cond (ieq x.2 2)
          (Option.bind (F_i_Register_value x.1.1) fun r5 =>
            (Option.bind (F_i_Register_shifted (x.1.2.1, (imul .i64 (isub .i64 0 r5) r2))) fun r6 =>
              (Option.bind (F_i_Register_shifted (x.1.2.2.1, (isub .i64 0 r2))) fun r7 =>
                (some ((r1.1, (r6.1, (r7.1, r1.2.2.2))), r6.2)))))
          (cond (ieq x.2 3)
            (Option.bind (F_i_Machine_places (x.1.1, (x.1.2.1, (x.1.2.2.1, x.1.2.2.2)))) fun r6 =>
              (cond (bnot (ieq (iadd .i64 x.1.2.2.2 1) r6))
                (some ((r1.1, (r1.2.1, (r1.2.2.1, (iadd .i64 r1.2.2.2 1)))), (ieq (iadd .i64 x.1.2.2.2 1) r6)))
                (some ((r1.1, (r1.2.1, (r1.2.2.1, r1.2.2.2))), (ieq (iadd .i64 x.1.2.2.2 1) r6)))))
            (cond (ieq x.2 4)
              (cond (bnot (ieq x.1.2.2.2 0))
                (some ((r1.1, (r1.2.1, (r1.2.2.1, (isub .i64 r1.2.2.2 1)))), (ieq x.1.2.2.2 0)))
                (some ((r1.1, (r1.2.1, (r1.2.2.1, r1.2.2.2))), (ieq x.1.2.2.2 0))))
              (cond (ieq x.2 5)
                (Option.bind (F_i_Register_withValue (x.1.2.1, 0)) fun r8 =>
                  (Option.bind (F_i_Register_withValue (x.1.2.2.1, 0)) fun r9 =>
                    (some ((r1.1, (r8, (r9, r1.2.2.2))), false))))
                (cond (ieq x.2 6)
                  (Option.bind (F_i_Register_withValue (x.1.1, 0)) fun r9 =>
                    (some ((r9, (r1.2.1, (r1.2.2.1, r1.2.2.2))), false)))
                  (some ((r1.1, (r1.2.1, (r1.2.2.1, r1.2.2.2))), false))))))))))

noncomputable def F_i_DoStrokes (x : (((Int × (List Int)) × ((Int × (List Int)) × ((Int × (List Int)) × Int))) × (List Int))) : Option (((Int × (List Int)) × ((Int × (List Int)) × ((Int × (List Int)) × Int))) × (Int × Int)) :=
  (Option.bind (F_i_ValidMachine (x.1.1, (x.1.2.1, (x.1.2.2.1, x.1.2.2.2)))) fun r1 =>
    (cond (bnot r1)
      (some (((0, ([] : (List Int))), ((0, ([] : (List Int))), ((0, ([] : (List Int))), 0))), (0, 1)))
      (iter (σ := (Int × (Int × ((List Int) × (Int × (Int × (Int × (Int × ((List Int) × ((List Int) × ((List Int) × (Int × (Int × (Int × (Int × ((List Int) × ((List Int) × (List Int)))))))))))))))))) (fun s3 =>
        (cond (ilt s3.2.1 s3.1)
          (chk (okIx s3.2.1 (xlen s3.2.2.1))
          (Option.bind (F_i_isStroke (xget s3.2.2.1 (i2n s3.2.1) 0)) fun r5 =>
            (cond (bnot r5)
              (some (.inr (((0, ([] : (List Int))), ((0, ([] : (List Int))), ((0, ([] : (List Int))), 0))), (0, 2))))
              (some (.inl (s3.1, ((iadd .i64 s3.2.1 1), (s3.2.2.1, (s3.2.2.2.1, (s3.2.2.2.2.1, (s3.2.2.2.2.2.1, (s3.2.2.2.2.2.2.1, (s3.2.2.2.2.2.2.2.1, (s3.2.2.2.2.2.2.2.2.1, (s3.2.2.2.2.2.2.2.2.2.1, (s3.2.2.2.2.2.2.2.2.2.2.1, (s3.2.2.2.2.2.2.2.2.2.2.2.1, (s3.2.2.2.2.2.2.2.2.2.2.2.2.1, (s3.2.2.2.2.2.2.2.2.2.2.2.2.2.1, (s3.2.2.2.2.2.2.2.2.2.2.2.2.2.2.1, s3.2.2.2.2.2.2.2.2.2.2.2.2.2.2.2))))))))))))))))))))
          (Option.map Sum.inr
            (cond (igt (n2i (xlen s3.2.2.1)) 300)
            (some (((0, ([] : (List Int))), ((0, ([] : (List Int))), ((0, ([] : (List Int))), 0))), (0, 5)))
            (Option.bind (F_i_Machine_copied ((s3.2.2.2.1, s3.2.2.2.2.2.2.2.1), ((s3.2.2.2.2.1, s3.2.2.2.2.2.2.2.2.1), ((s3.2.2.2.2.2.1, s3.2.2.2.2.2.2.2.2.2.1), s3.2.2.2.2.2.2.1)))) fun r6 =>
              (iter (σ := (Int × (Int × ((List Int) × (Int × (Int × (Int × (Int × ((List Int) × ((List Int) × ((List Int) × (Int × (Int × (Int × (Int × ((List Int) × ((List Int) × (List Int)))))))))))))))))) (fun s7 =>
                (cond (ilt s7.2.1 s7.1)
                  (chk (okIx s7.2.1 (xlen s7.2.2.1))
                  (Option.bind (F_i_Machine_stroke (((s7.2.2.2.2.2.2.2.2.2.2.1, s7.2.2.2.2.2.2.2.2.2.2.2.2.2.2.1), ((s7.2.2.2.2.2.2.2.2.2.2.2.1, s7.2.2.2.2.2.2.2.2.2.2.2.2.2.2.2.1), ((s7.2.2.2.2.2.2.2.2.2.2.2.2.1, s7.2.2.2.2.2.2.2.2.2.2.2.2.2.2.2.2), s7.2.2.2.2.2.2.2.2.2.2.2.2.2.1))), (xget s7.2.2.1 (i2n s7.2.1) 0))) fun r9 =>
                    (cond r9.2
                      (some (.inr ((r9.1.1, (r9.1.2.1, (r9.1.2.2.1, r9.1.2.2.2))), ((iadd .i64 s7.2.1 1), 0))))
                      (some (.inl (s7.1, ((iadd .i64 s7.2.1 1), (s7.2.2.1, (s7.2.2.2.1, (s7.2.2.2.2.1, (s7.2.2.2.2.2.1, (s7.2.2.2.2.2.2.1, (s7.2.2.2.2.2.2.2.1, (s7.2.2.2.2.2.2.2.2.1, (s7.2.2.2.2.2.2.2.2.2.1, (r9.1.1.1, (r9.1.2.1.1, (r9.1.2.2.1.1, (r9.1.2.2.2, (r9.1.1.2, (r9.1.2.1.2, r9.1.2.2.1.2)))))))))))))))))))))
                  (some (.inr (((s7.2.2.2.2.2.2.2.2.2.2.1, s7.2.2.2.2.2.2.2.2.2.2.2.2.2.2.1), ((s7.2.2.2.2.2.2.2.2.2.2.2.1, s7.2.2.2.2.2.2.2.2.2.2.2.2.2.2.2.1), ((s7.2.2.2.2.2.2.2.2.2.2.2.2.1, s7.2.2.2.2.2.2.2.2.2.2.2.2.2.2.2.2), s7.2.2.2.2.2.2.2.2.2.2.2.2.2.1))), ((n2i (xlen s7.2.2.1)), 0))))))
                ((n2i (xlen s3.2.2.1)), (0, (s3.2.2.1, (s3.2.2.2.2.2.2.2.2.2.2.1, (s3.2.2.2.2.2.2.2.2.2.2.2.1, (s3.2.2.2.2.2.2.2.2.2.2.2.2.1, (s3.2.2.2.2.2.2.2.2.2.2.2.2.2.1, (s3.2.2.2.2.2.2.2.2.2.2.2.2.2.2.1, (s3.2.2.2.2.2.2.2.2.2.2.2.2.2.2.2.1, (s3.2.2.2.2.2.2.2.2.2.2.2.2.2.2.2.2, (r6.1.1, (r6.2.1.1, (r6.2.2.1.1, (r6.2.2.2, (r6.1.2, (r6.2.1.2, r6.2.2.1.2))))))))))))))))))))))
        ((n2i (xlen x.2)), (0, (x.2, (x.1.1.1, (x.1.2.1.1, (x.1.2.2.1.1, (x.1.2.2.2, (x.1.1.2, (x.1.2.1.2, (x.1.2.2.1.2, (0, (0, (0, (0, (([] : (List Int)), (([] : (List Int)), ([] : (List Int)))))))))))))))))))))

noncomputable def F_s_ValidMachine (x : ((Int × (List Int)) × ((Int × (List Int)) × ((Int × (List Int)) × Int)))) : Option Bool :=
  (Option.bind (F_s_l10Ok (x.1, (x.2.1, (x.2.2.1, x.2.2.2)))) fun r1 =>
    (some r1))

noncomputable def F_l_a2Power (x : (Int × Int)) : Option Int :=
  (iter (σ := (Int × (Int × Int))) (fun s1 =>
    (cond (igt s1.2.1 0)
      (some (.inl (s1.1, ((isub .i64 s1.2.1 1), (imul .i64 s1.2.2 s1.1)))))
      (some (.inr s1.2.2))))
    (x.1, (x.2, 1)))

noncomputable def F_s_l00Same (x : ((List Int) × (List Int))) : Option Bool :=
  (cond (ine (n2i (xlen x.1)) (n2i (xlen x.2)))
    (some false)
    (iter (σ := (Int × ((List Int) × (List Int)))) (fun s2 =>
      (cond (ilt s2.1 (n2i (xlen s2.2.1)))
        (chk (okIx s2.1 (xlen s2.2.1))
        (chk (okIx s2.1 (xlen s2.2.2))
        (cond (ine (xget s2.2.1 (i2n s2.1) 0) (xget s2.2.2 (i2n s2.1) 0))
          (some (.inr false))
          (some (.inl ((iadd .i64 s2.1 1), s2.2))))))
        (some (.inr true))))
      (0, x)))

noncomputable def F_s_l02Same (x : ((Int × (List Int)) × (Int × (List Int)))) : Option Bool :=
  (cond (ieq x.1.1 x.2.1)
    (Option.bind (F_s_l00Same (x.1.2, x.2.2)) fun r2 =>
      (some r2))
    (some false))

noncomputable def F_s_l10Same (x : (((Int × (List Int)) × ((Int × (List Int)) × ((Int × (List Int)) × Int))) × ((Int × (List Int)) × ((Int × (List Int)) × ((Int × (List Int)) × Int))))) : Option Bool :=
  (Option.bind (F_s_l02Same (x.1.1, x.2.1)) fun r1 =>
    (cond r1
      (Option.bind (F_s_l02Same (x.1.2.1, x.2.2.1)) fun r3 =>
        (cond r3
          (Option.bind (F_s_l02Same (x.1.2.2.1, x.2.2.2.1)) fun r5 =>
            (cond r5
              (some (ieq x.1.2.2.2 x.2.2.2.2))
              (some false)))
          (some false)))
      (some false)))

noncomputable def F_s_SameMachine (x : (((Int × (List Int)) × ((Int × (List Int)) × ((Int × (List Int)) × Int))) × ((Int × (List Int)) × ((Int × (List Int)) × ((Int × (List Int)) × Int))))) : Option Bool :=
  (Option.bind (F_s_l10Same ((x.1.1, (x.1.2.1, (x.1.2.2.1, x.1.2.2.2))), (x.2.1, (x.2.2.1, (x.2.2.2.1, x.2.2.2.2))))) fun r1 =>
    (some r1))

noncomputable def F_s_ValueOf (x : (Int × (List Int))) : Option (Int × Int) :=
  (Option.bind (F_s_l02Ok x) fun r1 =>
    (cond (bnot r1)
      (some (0, 1))
      (Option.bind (F_s_l02Value x) fun r3 =>
        (some (r3, 0)))))

noncomputable def F_l_FnCounted (x : ((List Int) × (List Int))) : Option Bool :=
  (Option.bind (F_l_a2Long x) fun r1 =>
    (cond r1
      (some true)
      (Option.bind (F_s_A2Machine x.1) fun r3 =>
        (Option.bind (F_s_DoStroke ((r3.1, (r3.2.1, (r3.2.2.1, r3.2.2.2))), 5)) fun r4 =>
          (iter (σ := (Int × ((List Int) × (Int × (Int × (Int × (Int × ((List Int) × ((List Int) × ((List Int) × (List Int))))))))))) (fun s5 =>
            (cond (ilt s5.1 10)
              (Option.bind (F_l_a2At (s5.2.1, (s5.1, 4))) fun r7 =>
                (chk (okRoom (xlen s5.2.2.2.2.2.2.2.2.2) (xlen ((iadd .i64 1 r7) :: ([] : (List Int)))) 8)
                (some (.inl ((iadd .i64 s5.1 1), (s5.2.1, (s5.2.2.1, (s5.2.2.2.1, (s5.2.2.2.2.1, (s5.2.2.2.2.2.1, (s5.2.2.2.2.2.2.1, (s5.2.2.2.2.2.2.2.1, (s5.2.2.2.2.2.2.2.2.1, (xapp s5.2.2.2.2.2.2.2.2.2 ((iadd .i64 1 r7) :: ([] : (List Int)))))))))))))))))
              (Option.map Sum.inr
                (Option.bind (F_i_DoStrokes (((s5.2.2.1, s5.2.2.2.2.2.2.1), ((s5.2.2.2.1, s5.2.2.2.2.2.2.2.1), ((s5.2.2.2.2.1, s5.2.2.2.2.2.2.2.2.1), s5.2.2.2.2.2.1))), s5.2.2.2.2.2.2.2.2.2)) fun r7 =>
                (cond (ine r7.2.2 0)
                  (some false)
                  (cond (ilt r7.2.1 0)
                    (some false)
                    (cond (igt r7.2.1 10)
                      (some false)
                      (Option.bind (F_s_ValidMachine (r7.1.1, (r7.1.2.1, (r7.1.2.2.1, r7.1.2.2.2)))) fun r11 =>
                        (cond (bnot r11)
                          (some false)
                          (iter (σ := (Int × (Int × (Int × (Int × (Int × (Int × (Int × ((List Int) × ((List Int) × ((List Int) × ((List Int) × (Int × (Int × (Int × (Int × ((List Int) × ((List Int) × ((List Int) × (Int × (Int × (Int × (Int × ((List Int) × ((List Int) × (List Int)))))))))))))))))))))))))) (fun s13 =>
                            (cond (ilt s13.2.2.1 s13.1)
                              (Option.bind (F_l_a2Power (s13.2.2.2.1, s13.2.2.2.2.2.2.2.2.2.2.2.2.2.2.2.2.2.2.2.2.2.1)) fun r15 =>
                                (chk (okIx s13.2.2.1 (xlen s13.2.2.2.2.2.2.2.2.2.2.1))
                                (Option.bind (F_s_DoStroke_b (((s13.2.2.2.2.2.2.2.2.2.2.2.2.2.2.2.2.2.2.1, s13.2.2.2.2.2.2.2.2.2.2.2.2.2.2.2.2.2.2.2.2.2.2.1), ((s13.2.2.2.2.2.2.2.2.2.2.2.2.2.2.2.2.2.2.2.1, s13.2.2.2.2.2.2.2.2.2.2.2.2.2.2.2.2.2.2.2.2.2.2.2.1), ((s13.2.2.2.2.2.2.2.2.2.2.2.2.2.2.2.2.2.2.2.2.1, s13.2.2.2.2.2.2.2.2.2.2.2.2.2.2.2.2.2.2.2.2.2.2.2.2), s13.2.2.2.2.2.2.2.2.2.2.2.2.2.2.2.2.2.2.2.2.2.1))), (xget s13.2.2.2.2.2.2.2.2.2.2.1 (i2n s13.2.2.1) 0))) fun r16 =>
                                  (cond (ine r16.2.2 0)
                                    (some (.inr false))
                                    (cond r16.2.1
                                      (cond (ilt (iadd .i64 s13.2.2.1 1) s13.1)
                                        (some (.inr false))
                                        (chk (okIx s13.2.2.1 (xlen s13.2.2.2.2.2.2.2.2.2.2.1))
                                        (cond (ieq (xget s13.2.2.2.2.2.2.2.2.2.2.1 (i2n s13.2.2.1) 0) 1)
                                          (chk (okIx s13.2.2.1 (xlen s13.2.2.2.2.2.2.2.2.2.2.1))
                                          (cond (ieq (xget s13.2.2.2.2.2.2.2.2.2.2.1 (i2n s13.2.2.1) 0) 2)
                                            (some (.inl (s13.1, ((isub .i64 (iadd .i64 s13.2.1 r15) r15), ((iadd .i64 s13.2.2.1 1), (s13.2.2.2.1, (s13.2.2.2.2.1, (s13.2.2.2.2.2.1, (s13.2.2.2.2.2.2.1, (s13.2.2.2.2.2.2.2.1, (s13.2.2.2.2.2.2.2.2.1, (s13.2.2.2.2.2.2.2.2.2.1, (s13.2.2.2.2.2.2.2.2.2.2.1, (s13.2.2.2.2.2.2.2.2.2.2.2.1, (s13.2.2.2.2.2.2.2.2.2.2.2.2.1, (s13.2.2.2.2.2.2.2.2.2.2.2.2.2.1, (s13.2.2.2.2.2.2.2.2.2.2.2.2.2.2.1, (s13.2.2.2.2.2.2.2.2.2.2.2.2.2.2.2.1, (s13.2.2.2.2.2.2.2.2.2.2.2.2.2.2.2.2.1, (s13.2.2.2.2.2.2.2.2.2.2.2.2.2.2.2.2.2.1, (r16.1.1.1, (r16.1.2.1.1, (r16.1.2.2.1.1, (r16.1.2.2.2, (r16.1.1.2, (r16.1.2.1.2, r16.1.2.2.1.2))))))))))))))))))))))))))
                                            (some (.inl (s13.1, ((iadd .i64 s13.2.1 r15), ((iadd .i64 s13.2.2.1 1), (s13.2.2.2.1, (s13.2.2.2.2.1, (s13.2.2.2.2.2.1, (s13.2.2.2.2.2.2.1, (s13.2.2.2.2.2.2.2.1, (s13.2.2.2.2.2.2.2.2.1, (s13.2.2.2.2.2.2.2.2.2.1, (s13.2.2.2.2.2.2.2.2.2.2.1, (s13.2.2.2.2.2.2.2.2.2.2.2.1, (s13.2.2.2.2.2.2.2.2.2.2.2.2.1, (s13.2.2.2.2.2.2.2.2.2.2.2.2.2.1, (s13.2.2.2.2.2.2.2.2.2.2.2.2.2.2.1, (s13.2.2.2.2.2.2.2.2.2.2.2.2.2.2.2.1, (s13.2.2.2.2.2.2.2.2.2.2.2.2.2.2.2.2.1, (s13.2.2.2.2.2.2.2.2.2.2.2.2.2.2.2.2.2.1, (r16.1.1.1, (r16.1.2.1.1, (r16.1.2.2.1.1, (r16.1.2.2.2, (r16.1.1.2, (r16.1.2.1.2, r16.1.2.2.1.2))))))))))))))))))))))))))))
                                          (chk (okIx s13.2.2.1 (xlen s13.2.2.2.2.2.2.2.2.2.2.1))
                                          (cond (ieq (xget s13.2.2.2.2.2.2.2.2.2.2.1 (i2n s13.2.2.1) 0) 2)
                                            (some (.inl (s13.1, ((isub .i64 s13.2.1 r15), ((iadd .i64 s13.2.2.1 1), (s13.2.2.2.1, (s13.2.2.2.2.1, (s13.2.2.2.2.2.1, (s13.2.2.2.2.2.2.1, (s13.2.2.2.2.2.2.2.1, (s13.2.2.2.2.2.2.2.2.1, (s13.2.2.2.2.2.2.2.2.2.1, (s13.2.2.2.2.2.2.2.2.2.2.1, (s13.2.2.2.2.2.2.2.2.2.2.2.1, (s13.2.2.2.2.2.2.2.2.2.2.2.2.1, (s13.2.2.2.2.2.2.2.2.2.2.2.2.2.1, (s13.2.2.2.2.2.2.2.2.2.2.2.2.2.2.1, (s13.2.2.2.2.2.2.2.2.2.2.2.2.2.2.2.1, (s13.2.2.2.2.2.2.2.2.2.2.2.2.2.2.2.2.1, (s13.2.2.2.2.2.2.2.2.2.2.2.2.2.2.2.2.2.1, (r16.1.1.1, (r16.1.2.1.1, (r16.1.2.2.1.1, (r16.1.2.2.2, (r16.1.1.2, (r16.1.2.1.2, r16.1.2.2.1.2))))))))))))))))))))))))))
                                            (some (.inl (s13.1, (s13.2.1, ((iadd .i64 s13.2.2.1 1), (s13.2.2.2.1, (s13.2.2.2.2.1, (s13.2.2.2.2.2.1, (s13.2.2.2.2.2.2.1, (s13.2.2.2.2.2.2.2.1, (s13.2.2.2.2.2.2.2.2.1, (s13.2.2.2.2.2.2.2.2.2.1, (s13.2.2.2.2.2.2.2.2.2.2.1, (s13.2.2.2.2.2.2.2.2.2.2.2.1, (s13.2.2.2.2.2.2.2.2.2.2.2.2.1, (s13.2.2.2.2.2.2.2.2.2.2.2.2.2.1, (s13.2.2.2.2.2.2.2.2.2.2.2.2.2.2.1, (s13.2.2.2.2.2.2.2.2.2.2.2.2.2.2.2.1, (s13.2.2.2.2.2.2.2.2.2.2.2.2.2.2.2.2.1, (s13.2.2.2.2.2.2.2.2.2.2.2.2.2.2.2.2.2.1, (r16.1.1.1, (r16.1.2.1.1, (r16.1.2.2.1.1, (r16.1.2.2.2, (r16.1.1.2, (r16.1.2.1.2, r16.1.2.2.1.2)))))))))))))))))))))))))))))))
                                      (chk (okIx s13.2.2.1 (xlen s13.2.2.2.2.2.2.2.2.2.2.1))
                                      (cond (ieq (xget s13.2.2.2.2.2.2.2.2.2.2.1 (i2n s13.2.2.1) 0) 1)
                                        (chk (okIx s13.2.2.1 (xlen s13.2.2.2.2.2.2.2.2.2.2.1))
                                        (cond (ieq (xget s13.2.2.2.2.2.2.2.2.2.2.1 (i2n s13.2.2.1) 0) 2)
                                          (some (.inl (s13.1, ((isub .i64 (iadd .i64 s13.2.1 r15) r15), ((iadd .i64 s13.2.2.1 1), (s13.2.2.2.1, (s13.2.2.2.2.1, (s13.2.2.2.2.2.1, (s13.2.2.2.2.2.2.1, (s13.2.2.2.2.2.2.2.1, (s13.2.2.2.2.2.2.2.2.1, (s13.2.2.2.2.2.2.2.2.2.1, (s13.2.2.2.2.2.2.2.2.2.2.1, (s13.2.2.2.2.2.2.2.2.2.2.2.1, (s13.2.2.2.2.2.2.2.2.2.2.2.2.1, (s13.2.2.2.2.2.2.2.2.2.2.2.2.2.1, (s13.2.2.2.2.2.2.2.2.2.2.2.2.2.2.1, (s13.2.2.2.2.2.2.2.2.2.2.2.2.2.2.2.1, (s13.2.2.2.2.2.2.2.2.2.2.2.2.2.2.2.2.1, (s13.2.2.2.2.2.2.2.2.2.2.2.2.2.2.2.2.2.1, (r16.1.1.1, (r16.1.2.1.1, (r16.1.2.2.1.1, (r16.1.2.2.2, (r16.1.1.2, (r16.1.2.1.2, r16.1.2.2.1.2))))))))))))))))))))))))))
                                          (some (.inl (s13.1, ((iadd .i64 s13.2.1 r15), ((iadd .i64 s13.2.2.1 1), (s13.2.2.2.1, (s13.2.2.2.2.1, (s13.2.2.2.2.2.1, (s13.2.2.2.2.2.2.1, (s13.2.2.2.2.2.2.2.1, (s13.2.2.2.2.2.2.2.2.1, (s13.2.2.2.2.2.2.2.2.2.1, (s13.2.2.2.2.2.2.2.2.2.2.1, (s13.2.2.2.2.2.2.2.2.2.2.2.1, (s13.2.2.2.2.2.2.2.2.2.2.2.2.1, (s13.2.2.2.2.2.2.2.2.2.2.2.2.2.1, (s13.2.2.2.2.2.2.2.2.2.2.2.2.2.2.1, (s13.2.2.2.2.2.2.2.2.2.2.2.2.2.2.2.1, (s13.2.2.2.2.2.2.2.2.2.2.2.2.2.2.2.2.1, (s13.2.2.2.2.2.2.2.2.2.2.2.2.2.2.2.2.2.1, (r16.1.1.1, (r16.1.2.1.1, (r16.1.2.2.1.1, (r16.1.2.2.2, (r16.1.1.2, (r16.1.2.1.2, r16.1.2.2.1.2))))))))))))))))))))))))))))
                                        (chk (okIx s13.2.2.1 (xlen s13.2.2.2.2.2.2.2.2.2.2.1))
                                        (cond (ieq (xget s13.2.2.2.2.2.2.2.2.2.2.1 (i2n s13.2.2.1) 0) 2)
                                          (some (.inl (s13.1, ((isub .i64 s13.2.1 r15), ((iadd .i64 s13.2.2.1 1), (s13.2.2.2.1, (s13.2.2.2.2.1, (s13.2.2.2.2.2.1, (s13.2.2.2.2.2.2.1, (s13.2.2.2.2.2.2.2.1, (s13.2.2.2.2.2.2.2.2.1, (s13.2.2.2.2.2.2.2.2.2.1, (s13.2.2.2.2.2.2.2.2.2.2.1, (s13.2.2.2.2.2.2.2.2.2.2.2.1, (s13.2.2.2.2.2.2.2.2.2.2.2.2.1, (s13.2.2.2.2.2.2.2.2.2.2.2.2.2.1, (s13.2.2.2.2.2.2.2.2.2.2.2.2.2.2.1, (s13.2.2.2.2.2.2.2.2.2.2.2.2.2.2.2.1, (s13.2.2.2.2.2.2.2.2.2.2.2.2.2.2.2.2.1, (s13.2.2.2.2.2.2.2.2.2.2.2.2.2.2.2.2.2.1, (r16.1.1.1, (r16.1.2.1.1, (r16.1.2.2.1.1, (r16.1.2.2.2, (r16.1.1.2, (r16.1.2.1.2, r16.1.2.2.1.2))))))))))))))))))))))))))
                                          (some (.inl (s13.1, (s13.2.1, ((iadd .i64 s13.2.2.1 1), (s13.2.2.2.1, (s13.2.2.2.2.1, (s13.2.2.2.2.2.1, (s13.2.2.2.2.2.2.1, (s13.2.2.2.2.2.2.2.1, (s13.2.2.2.2.2.2.2.2.1, (s13.2.2.2.2.2.2.2.2.2.1, (s13.2.2.2.2.2.2.2.2.2.2.1, (s13.2.2.2.2.2.2.2.2.2.2.2.1, (s13.2.2.2.2.2.2.2.2.2.2.2.2.1, (s13.2.2.2.2.2.2.2.2.2.2.2.2.2.1, (s13.2.2.2.2.2.2.2.2.2.2.2.2.2.2.1, (s13.2.2.2.2.2.2.2.2.2.2.2.2.2.2.2.1, (s13.2.2.2.2.2.2.2.2.2.2.2.2.2.2.2.2.1, (s13.2.2.2.2.2.2.2.2.2.2.2.2.2.2.2.2.2.1, (r16.1.1.1, (r16.1.2.1.1, (r16.1.2.2.1.1, (r16.1.2.2.2, (r16.1.1.2, (r16.1.2.1.2, r16.1.2.2.1.2)))))))))))))))))))))))))))))))))))
                              (Option.map Sum.inr
                                (Option.bind (F_s_SameMachine (((s13.2.2.2.2.2.2.2.2.2.2.2.1, s13.2.2.2.2.2.2.2.2.2.2.2.2.2.2.2.1), ((s13.2.2.2.2.2.2.2.2.2.2.2.2.1, s13.2.2.2.2.2.2.2.2.2.2.2.2.2.2.2.2.1), ((s13.2.2.2.2.2.2.2.2.2.2.2.2.2.1, s13.2.2.2.2.2.2.2.2.2.2.2.2.2.2.2.2.2.1), s13.2.2.2.2.2.2.2.2.2.2.2.2.2.2.1))), ((s13.2.2.2.2.2.2.2.2.2.2.2.2.2.2.2.2.2.2.1, s13.2.2.2.2.2.2.2.2.2.2.2.2.2.2.2.2.2.2.2.2.2.2.1), ((s13.2.2.2.2.2.2.2.2.2.2.2.2.2.2.2.2.2.2.2.1, s13.2.2.2.2.2.2.2.2.2.2.2.2.2.2.2.2.2.2.2.2.2.2.2.1), ((s13.2.2.2.2.2.2.2.2.2.2.2.2.2.2.2.2.2.2.2.2.1, s13.2.2.2.2.2.2.2.2.2.2.2.2.2.2.2.2.2.2.2.2.2.2.2.2), s13.2.2.2.2.2.2.2.2.2.2.2.2.2.2.2.2.2.2.2.2.2.1))))) fun r15 =>
                                (cond (bnot r15)
                                  (some false)
                                  (Option.bind (F_s_ValueOf (s13.2.2.2.1, s13.2.2.2.2.2.2.2.1)) fun r17 =>
                                    (Option.bind (F_s_ValueOf (s13.2.2.2.2.2.2.2.2.2.2.2.2.1, s13.2.2.2.2.2.2.2.2.2.2.2.2.2.2.2.2.1)) fun r18 =>
                                      (Option.bind (F_s_ValueOf (s13.2.2.2.2.2.2.2.2.2.2.2.2.2.1, s13.2.2.2.2.2.2.2.2.2.2.2.2.2.2.2.2.2.1)) fun r19 =>
                                        (Option.bind (F_l_a2Power (s13.2.2.2.1, (n2i (xlen s13.2.2.2.2.2.2.2.2.1)))) fun r20 =>
                                          (Option.bind (F_l_a2Power (s13.2.2.2.1, (n2i (xlen s13.2.2.2.2.2.2.2.2.2.1)))) fun r21 =>
                                            (cond (ieq r18.2 0)
                                              (cond (ieq r19.2 0)
                                                (chk (okDiv r20)
                                                (cond (ieq (irem (isub .i64 (imul .i64 s13.2.1 r17.1) r18.1) r20) 0)
                                                  (chk (okDiv r21)
                                                  (some (ieq (irem (isub .i64 s13.2.1 r19.1) r21) 0)))
                                                  (some false)))
                                                (some false))
                                              (some false))))))))))))
                            (r7.2.1, (0, (0, (s5.2.2.1, (s5.2.2.2.1, (s5.2.2.2.2.1, (s5.2.2.2.2.2.1, (s5.2.2.2.2.2.2.1, (s5.2.2.2.2.2.2.2.1, (s5.2.2.2.2.2.2.2.2.1, (s5.2.2.2.2.2.2.2.2.2, (r7.1.1.1, (r7.1.2.1.1, (r7.1.2.2.1.1, (r7.1.2.2.2, (r7.1.1.2, (r7.1.2.1.2, (r7.1.2.2.1.2, (s5.2.2.1, (s5.2.2.2.1, (s5.2.2.2.2.1, (s5.2.2.2.2.2.1, (s5.2.2.2.2.2.2.1, (s5.2.2.2.2.2.2.2.1, s5.2.2.2.2.2.2.2.2.1))))))))))))))))))))))))))))))))))
            (0, (x.2, (r4.1.1.1, (r4.1.2.1.1, (r4.1.2.2.1.1, (r4.1.2.2.2, (r4.1.1.2, (r4.1.2.1.2, (r4.1.2.2.1.2, ([] : (List Int))))))))))))))))

noncomputable def F_l_szMachine (x : (((Int × (List Int)) × ((Int × (List Int)) × ((Int × (List Int)) × Int))) × Int)) : Option Int :=
  (Option.bind (F_l_szRegister (x.1.1, x.2)) fun r1 =>
    (cond (ilt r1 0)
      (some (-1))
      (Option.bind (F_l_szRegister (x.1.2.1, r1)) fun r3 =>
        (cond (ilt r3 0)
          (some (-1))
          (Option.bind (F_l_szRegister (x.1.2.2.1, r3)) fun r5 =>
            (cond (ilt r5 0)
              (some (-1))
              (some r5)))))))

noncomputable def F_s_l27Digits (x : ((List Int) × (Int × (List Int)))) : Option (List Int) :=
  (chk (okRoom (xlen x.1) (xlen ((iwrap .u8 (isub .i64 (iadd .i64 (imul .i64 16 (isub .i64 x.2.1 1)) (n2i (xlen x.2.2))) 1)) :: ([] : (List Int)))) 1)
  (iter (σ := (Int × ((List Int) × (List (Int × (List Int)))))) (fun s1 =>
    (cond (ilt s1.1 (n2i (xlen (xget s1.2.2 0 (0, ([] : (List Int)))).2)))
      (chk (okIx s1.1 (xlen (xget s1.2.2 0 (0, ([] : (List Int)))).2))
      (cond (ilt (iadd .i64 s1.1 1) (n2i (xlen (xget s1.2.2 0 (0, ([] : (List Int)))).2)))
        (chk (okIx (iadd .i64 s1.1 1) (xlen (xget s1.2.2 0 (0, ([] : (List Int)))).2))
        (chk (okRoom (xlen s1.2.1) (xlen ((iwrap .u8 (iadd .i64 (imul .i64 16 (xget (xget s1.2.2 0 (0, ([] : (List Int)))).2 (i2n s1.1) 0)) (xget (xget s1.2.2 0 (0, ([] : (List Int)))).2 (i2n (iadd .i64 s1.1 1)) 0))) :: ([] : (List Int)))) 1)
        (some (.inl ((iadd .i64 s1.1 2), ((xapp s1.2.1 ((iwrap .u8 (iadd .i64 (imul .i64 16 (xget (xget s1.2.2 0 (0, ([] : (List Int)))).2 (i2n s1.1) 0)) (xget (xget s1.2.2 0 (0, ([] : (List Int)))).2 (i2n (iadd .i64 s1.1 1)) 0))) :: ([] : (List Int)))), s1.2.2))))))
        (chk (okRoom (xlen s1.2.1) (xlen ((iwrap .u8 (imul .i64 16 (xget (xget s1.2.2 0 (0, ([] : (List Int)))).2 (i2n s1.1) 0))) :: ([] : (List Int)))) 1)
        (some (.inl ((iadd .i64 s1.1 2), ((xapp s1.2.1 ((iwrap .u8 (imul .i64 16 (xget (xget s1.2.2 0 (0, ([] : (List Int)))).2 (i2n s1.1) 0))) :: ([] : (List Int)))), s1.2.2)))))))
      (some (.inr s1.2.1))))
    (0, ((xapp x.1 ((iwrap .u8 (isub .i64 (iadd .i64 (imul .i64 16 (isub .i64 x.2.1 1)) (n2i (xlen x.2.2))) 1)) :: ([] : (List Int)))), (x.2 :: ([] : (List (Int × (List Int)))))))))

noncomputable def F_s_l27Sum (x : ByteArray) : Option Int :=
  (iter (σ := (ByteArray × (Int × Int))) (fun s1 =>
    (cond (ilt s1.2.2 (n2i (slen s1.1)))
      (chk (okIx s1.2.2 (slen s1.1))
      (chk (okDiv 65521)
      (some (.inl (s1.1, ((irem (iadd .i64 (iadd .i64 (imul .i64 31 s1.2.1) (iwrap .i64 (byteAt s1.1 (i2n s1.2.2)))) 1) 65521), (iadd .i64 s1.2.2 1)))))))
      (some (.inr s1.2.1))))
    (x, (7, 0)))

noncomputable def F_s_l27Ended (x : (List Int)) : Option ByteArray :=
  (Option.bind (F_s_l27Sum (b2s x)) fun r1 =>
    (chk (okDiv 256)
    (chk (okDiv 256)
    (chk (okRoom (xlen x) (xlen ((iwrap .u8 (iquo .i64 r1 256)) :: ((iwrap .u8 (irem r1 256)) :: ([] : (List Int))))) 1)
    (some (b2s (xapp x ((iwrap .u8 (iquo .i64 r1 256)) :: ((iwrap .u8 (irem r1 256)) :: ([] : (List Int)))))))))))

noncomputable def F_s_l27Machine (x : ((Int × (List Int)) × ((Int × (List Int)) × ((Int × (List Int)) × Int)))) : Option ByteArray :=
  (Option.bind (F_s_l27Digits ((77 :: ((iwrap .u8 x.2.2.2) :: ([] : (List Int)))), x.1)) fun r1 =>
    (Option.bind (F_s_l27Digits (r1, x.2.1)) fun r2 =>
      (Option.bind (F_s_l27Digits (r2, x.2.2.1)) fun r3 =>
        (Option.bind (F_s_l27Ended r3) fun r4 =>
          (some r4)))))

noncomputable def F_s_PackMachine (x : ((Int × (List Int)) × ((Int × (List Int)) × ((Int × (List Int)) × Int)))) : Option (ByteArray × Int) :=
  (Option.bind (F_s_l10Ok (x.1, (x.2.1, (x.2.2.1, x.2.2.2)))) fun r1 =>
    (cond (bnot r1)
      (some ((ByteArray.mk #[]), 1))
      (Option.bind (F_s_l27Machine (x.1, (x.2.1, (x.2.2.1, x.2.2.2)))) fun r3 =>
        (some (r3, 0)))))

noncomputable def F_l_toMachine (x : ((Int × (List Int)) × ((Int × (List Int)) × ((Int × (List Int)) × Int)))) : Option ((Int × (List Int)) × ((Int × (List Int)) × ((Int × (List Int)) × Int))) :=
  (Option.bind (F_l_toRegister x.1) fun r1 =>
    (Option.bind (F_l_toRegister x.2.1) fun r2 =>
      (Option.bind (F_l_toRegister x.2.2.1) fun r3 =>
        (some (r1, (r2, (r3, x.2.2.2)))))))

noncomputable def F_i_Register_bytes (x : (Int × (List Int))) : Option (List Int) :=
  (Option.bind (F_i_Register_width x) fun r1 =>
    (iter (σ := (Int × (Int × ((List Int) × (List Int))))) (fun s2 =>
      (Option.bind (F_i_Register_width (s2.2.1, s2.2.2.1)) fun r3 =>
        (cond (ilt s2.1 r3)
          (chk (okIx s2.1 (xlen s2.2.2.1))
          (Option.bind (F_i_Register_width (s2.2.1, s2.2.2.1)) fun r5 =>
            (cond (ilt (iadd .i64 s2.1 1) r5)
              (chk (okIx (iadd .i64 s2.1 1) (xlen s2.2.2.1))
              (chk (okRoom (xlen s2.2.2.2) (xlen ((iadd .u8 (iwrap .u8 (imul .i64 16 (xget s2.2.2.1 (i2n s2.1) 0))) (iwrap .u8 (xget s2.2.2.1 (i2n (iadd .i64 s2.1 1)) 0))) :: ([] : (List Int)))) 1)
              (some (.inl ((iadd .i64 s2.1 2), (s2.2.1, (s2.2.2.1, (xapp s2.2.2.2 ((iadd .u8 (iwrap .u8 (imul .i64 16 (xget s2.2.2.1 (i2n s2.1) 0))) (iwrap .u8 (xget s2.2.2.1 (i2n (iadd .i64 s2.1 1)) 0))) :: ([] : (List Int)))))))))))
              (chk (okRoom (xlen s2.2.2.2) (xlen ((iwrap .u8 (imul .i64 16 (xget s2.2.2.1 (i2n s2.1) 0))) :: ([] : (List Int)))) 1)
              (some (.inl ((iadd .i64 s2.1 2), (s2.2.1, (s2.2.2.1, (xapp s2.2.2.2 ((iwrap .u8 (imul .i64 16 (xget s2.2.2.1 (i2n s2.1) 0))) :: ([] : (List Int)))))))))))))
          (some (.inr s2.2.2.2)))))
      (0, (x.1, (x.2, ((iadd .u8 (iwrap .u8 (imul .i64 16 (isub .i64 x.1 1))) (iwrap .u8 (isub .i64 r1 1))) :: ([] : (List Int))))))))

noncomputable def F_i_SumOfBytes (x : ByteArray) : Option Int :=
  (iter (σ := (ByteArray × (Int × (Int × Int)))) (fun s1 =>
    (cond (ilt s1.2.2.2 s1.2.2.1)
      (chk (okIx s1.2.2.2 (slen s1.1))
      (chk (okDiv 65521)
      (some (.inl (s1.1, ((irem (iadd .i64 (iadd .i64 (imul .i64 31 s1.2.1) (iwrap .i64 (byteAt s1.1 (i2n s1.2.2.2)))) 1) 65521), (s1.2.2.1, (iadd .i64 s1.2.2.2 1))))))))
      (some (.inr s1.2.1))))
    (x, (7, ((n2i (slen x)), 0))))

noncomputable def F_i_sealed (x : (List Int)) : Option ByteArray :=
  (Option.bind (F_i_SumOfBytes (b2s x)) fun r1 =>
    (chk (okDiv 256)
    (chk (okDiv 256)
    (chk (okRoom (xlen x) (xlen ((iwrap .u8 (iquo .i64 r1 256)) :: ((iwrap .u8 (irem r1 256)) :: ([] : (List Int))))) 1)
    (some (b2s (xapp x ((iwrap .u8 (iquo .i64 r1 256)) :: ((iwrap .u8 (irem r1 256)) :: ([] : (List Int)))))))))))

noncomputable def F_i_PackMachine (x : ((Int × (List Int)) × ((Int × (List Int)) × ((Int × (List Int)) × Int)))) : Option (ByteArray × Int) :=
  (Option.bind (F_i_ValidMachine (x.1, (x.2.1, (x.2.2.1, x.2.2.2)))) fun r1 =>
    (cond (bnot r1)
      (some ((ByteArray.mk #[]), 1))
      (Option.bind (F_i_Register_bytes x.1) fun r3 =>
        (chk (okRoom (xlen (77 :: ((iwrap .u8 x.2.2.2) :: ([] : (List Int))))) (xlen r3) 1)
        (Option.bind (F_i_Register_bytes x.2.1) fun r4 =>
          (chk (okRoom (xlen (xapp (77 :: ((iwrap .u8 x.2.2.2) :: ([] : (List Int)))) r3)) (xlen r4) 1)
          (Option.bind (F_i_Register_bytes x.2.2.1) fun r5 =>
            (chk (okRoom (xlen (xapp (xapp (77 :: ((iwrap .u8 x.2.2.2) :: ([] : (List Int)))) r3) r4)) (xlen r5) 1)
            (Option.bind (F_i_sealed (xapp (xapp (xapp (77 :: ((iwrap .u8 x.2.2.2) :: ([] : (List Int)))) r3) r4) r5)) fun r6 =>
              (some (r6, 0)))))))))))

noncomputable def F_l_eqMachine (x : (((Int × (List Int)) × ((Int × (List Int)) × ((Int × (List Int)) × Int))) × ((Int × (List Int)) × ((Int × (List Int)) × ((Int × (List Int)) × Int))))) : Option Bool :=
  (Option.bind (F_l_eqRegister (x.1.1, x.2.1)) fun r1 =>
    (cond (bnot r1)
      (some false)
      (Option.bind (F_l_eqRegister (x.1.2.1, x.2.2.1)) fun r3 =>
        (cond (bnot r3)
          (some false)
          (Option.bind (F_l_eqRegister (x.1.2.2.1, x.2.2.2.1)) fun r5 =>
            (cond (bnot r5)
              (some false)
              (cond (ine x.1.2.2.2 x.2.2.2.2)
                (some false)
                (some true))))))))

noncomputable def F_l_FnExactPackMachine (x : ((Int × (List Int)) × ((Int × (List Int)) × ((Int × (List Int)) × Int)))) : Option Bool :=
  (Option.bind (F_l_szMachine ((x.1, (x.2.1, (x.2.2.1, x.2.2.2))), 1048576)) fun r1 =>
    (cond (ilt r1 0)
      (some true)
      (Option.bind (F_l_toMachine (x.1, (x.2.1, (x.2.2.1, x.2.2.2)))) fun r3 =>
        (Option.bind (F_s_PackMachine (r3.1, (r3.2.1, (r3.2.2.1, r3.2.2.2)))) fun r4 =>
          (Option.bind (F_l_toMachine (x.1, (x.2.1, (x.2.2.1, x.2.2.2)))) fun r5 =>
            (Option.bind (F_i_PackMachine (r5.1, (r5.2.1, (r5.2.2.1, r5.2.2.2)))) fun r6 =>
              (cond (sne r6.1 r4.1)
                (some false)
                (cond (ine r6.2 r4.2)
                  (some false)
                  (Option.bind (F_l_toMachine (x.1, (x.2.1, (x.2.2.1, x.2.2.2)))) fun r9 =>
                    (Option.bind (F_l_eqMachine ((r5.1, (r5.2.1, (r5.2.2.1, r5.2.2.2))), (r9.1, (r9.2.1, (r9.2.2.1, r9.2.2.2))))) fun r10 =>
                      (cond (bnot r10)
                        (some false)
                        (some true))))))))))))

noncomputable def F_s_l27Body (x : (ByteArray × Int)) : Option (ByteArray × Bool) :=
  (cond (ilt (n2i (slen x.1)) 3)
    (some ((ByteArray.mk #[]), false))
    (chk (okIx 0 (slen x.1))
    (cond (ine (byteAt x.1 (i2n 0)) x.2)
      (some ((ByteArray.mk #[]), false))
      (chk (okTo (isub .i64 (n2i (slen x.1)) 2) (slen x.1))
      (Option.bind (F_s_l27Sum (ssub x.1 0 (i2n (isub .i64 (n2i (slen x.1)) 2)))) fun r3 =>
        (chk (okIx (isub .i64 (n2i (slen x.1)) 2) (slen x.1))
        (chk (okIx (isub .i64 (n2i (slen x.1)) 1) (slen x.1))
        (cond (ine r3 (iadd .i64 (imul .i64 256 (iwrap .i64 (byteAt x.1 (i2n (isub .i64 (n2i (slen x.1)) 2))))) (iwrap .i64 (byteAt x.1 (i2n (isub .i64 (n2i (slen x.1)) 1))))))
          (some ((ByteArray.mk #[]), false))
          (chk (okTo (isub .i64 (n2i (slen x.1)) 2) (slen x.1))
          (chk (okTo 1 (i2n (isub .i64 (n2i (slen x.1)) 2)))
          (some ((ssub x.1 (i2n 1) (i2n (isub .i64 (n2i (slen x.1)) 2))), true))))))))))))

noncomputable def F_s_l27Register (x : ByteArray) : Option ((Int × (List Int)) × (ByteArray × Bool)) :=
  (cond (seq x (ByteArray.mk #[]))
    (some ((0, ([] : (List Int))), ((ByteArray.mk #[]), false)))
    (chk (okIx 0 (slen x))
    (chk (okDiv 16)
    (chk (okIx 0 (slen x))
    (chk (okDiv 16)
    (chk (okDiv 2)
    (cond (ilt (n2i (slen x)) (iadd .i64 (iquo .i64 (iadd .i64 (iadd .i64 (irem (iwrap .i64 (byteAt x (i2n 0))) 16) 1) 1) 2) 1))
      (some ((0, ([] : (List Int))), ((ByteArray.mk #[]), false)))
      (iter (σ := (ByteArray × (Int × (Int × (Int × (Int × ((List Int) × (Int × (List Int))))))))) (fun s3 =>
        (cond (ilt s3.2.2.2.1 s3.2.1)
          (chk (okDiv 2)
          (chk (okIx (iadd .i64 1 (iquo .i64 s3.2.2.2.1 2)) (slen s3.1))
          (chk (okDiv 2)
          (cond (ieq (irem s3.2.2.2.1 2) 0)
            (chk (okDiv 16)
            (chk (okRoom (xlen s3.2.2.2.2.2.2.2) (xlen ((iquo .i64 (iwrap .i64 (byteAt s3.1 (i2n (iadd .i64 1 (iquo .i64 s3.2.2.2.1 2))))) 16) :: ([] : (List Int)))) 8)
            (some (.inl (s3.1, (s3.2.1, (s3.2.2.1, ((iadd .i64 s3.2.2.2.1 1), (s3.2.2.2.2.1, (s3.2.2.2.2.2.1, (s3.2.2.2.2.2.2.1, (xapp s3.2.2.2.2.2.2.2 ((iquo .i64 (iwrap .i64 (byteAt s3.1 (i2n (iadd .i64 1 (iquo .i64 s3.2.2.2.1 2))))) 16) :: ([] : (List Int)))))))))))))))
            (chk (okDiv 16)
            (chk (okRoom (xlen s3.2.2.2.2.2.2.2) (xlen ((irem (iwrap .i64 (byteAt s3.1 (i2n (iadd .i64 1 (iquo .i64 s3.2.2.2.1 2))))) 16) :: ([] : (List Int)))) 8)
            (some (.inl (s3.1, (s3.2.1, (s3.2.2.1, ((iadd .i64 s3.2.2.2.1 1), (s3.2.2.2.2.1, (s3.2.2.2.2.2.1, (s3.2.2.2.2.2.2.1, (xapp s3.2.2.2.2.2.2.2 ((irem (iwrap .i64 (byteAt s3.1 (i2n (iadd .i64 1 (iquo .i64 s3.2.2.2.1 2))))) 16) :: ([] : (List Int)))))))))))))))))))
          (Option.map Sum.inr
            (chk (okTo (iadd .i64 s3.2.2.1 1) (slen s3.1))
          (chk (okDiv 2)
          (cond (ieq (irem s3.2.1 2) 0)
            (some (s3.2.2.2.2.2.2, ((ssub s3.1 (i2n (iadd .i64 s3.2.2.1 1)) (slen s3.1)), true)))
            (chk (okIx s3.2.2.1 (slen s3.1))
            (chk (okDiv 16)
            (some (s3.2.2.2.2.2.2, ((ssub s3.1 (i2n (iadd .i64 s3.2.2.1 1)) (slen s3.1)), (ieq (irem (byteAt s3.1 (i2n s3.2.2.1)) 16) 0))))))))))))
        (x, ((iadd .i64 (irem (iwrap .i64 (byteAt x (i2n 0))) 16) 1), ((iquo .i64 (iadd .i64 (iadd .i64 (irem (iwrap .i64 (byteAt x (i2n 0))) 16) 1) 1) 2), (0, (0, (([] : (List Int)), ((iadd .i64 (iquo .i64 (iwrap .i64 (byteAt x (i2n 0))) 16) 1), ([] : (List Int)))))))))))))))))

noncomputable def F_s_UnpackRegister (x : ByteArray) : Option ((Int × (List Int)) × Int) :=
  (Option.bind (F_s_l27Body (x, 82)) fun r1 =>
    (Option.bind (F_s_l27Register r1.1) fun r2 =>
      (cond (bnot r1.2)
        (some ((0, ([] : (List Int))), 8))
        (cond (bnot r2.2.2)
          (some ((0, ([] : (List Int))), 8))
          (cond (sne r2.2.1 (ByteArray.mk #[]))
            (some ((0, ([] : (List Int))), 8))
            (Option.bind (F_s_l02Ok r2.1) fun r6 =>
              (cond (bnot r6)
                (some ((0, ([] : (List Int))), 8))
                (some (r2.1, 0)))))))))

noncomputable def F_i_takeRegister (x : ByteArray) : Option ((Int × (List Int)) × (ByteArray × Bool)) :=
  (cond (seq x (ByteArray.mk #[]))
    (some ((0, ([] : (List Int))), ((ByteArray.mk #[]), false)))
    (chk (okIx 0 (slen x))
    (chk (okDiv 16)
    (chk (okIx 0 (slen x))
    (chk (okDiv 16)
    (chk (okDiv 2)
    (cond (ilt (n2i (slen x)) (iadd .i64 1 (iquo .i64 (iadd .i64 (iadd .i64 (iwrap .i64 (irem (byteAt x (i2n 0)) 16)) 1) 1) 2)))
      (some ((0, ([] : (List Int))), ((ByteArray.mk #[]), false)))
      (iter (σ := (ByteArray × (Int × (Int × (Int × (Int × ((List Int) × (Int × (List Int))))))))) (fun s3 =>
        (cond (ilt s3.2.2.2.1 s3.2.2.1)
          (chk (okDiv 2)
          (chk (okIx (iadd .i64 1 (iquo .i64 s3.2.2.2.1 2)) (slen s3.1))
          (chk (okDiv 2)
          (cond (ieq (irem s3.2.2.2.1 2) 0)
            (chk (okDiv 16)
            (chk (okDiv 16)
            (chk (okRoom (xlen s3.2.2.2.2.2.2.2) (xlen ((iwrap .i64 (irem (iquo .u8 (byteAt s3.1 (i2n (iadd .i64 1 (iquo .i64 s3.2.2.2.1 2)))) 16) 16)) :: ([] : (List Int)))) 8)
            (some (.inl (s3.1, (s3.2.1, (s3.2.2.1, ((iadd .i64 s3.2.2.2.1 1), (s3.2.2.2.2.1, (s3.2.2.2.2.2.1, (s3.2.2.2.2.2.2.1, (xapp s3.2.2.2.2.2.2.2 ((iwrap .i64 (irem (iquo .u8 (byteAt s3.1 (i2n (iadd .i64 1 (iquo .i64 s3.2.2.2.1 2)))) 16) 16)) :: ([] : (List Int))))))))))))))))
            (chk (okDiv 16)
            (chk (okRoom (xlen s3.2.2.2.2.2.2.2) (xlen ((iwrap .i64 (irem (byteAt s3.1 (i2n (iadd .i64 1 (iquo .i64 s3.2.2.2.1 2)))) 16)) :: ([] : (List Int)))) 8)
            (some (.inl (s3.1, (s3.2.1, (s3.2.2.1, ((iadd .i64 s3.2.2.2.1 1), (s3.2.2.2.2.1, (s3.2.2.2.2.2.1, (s3.2.2.2.2.2.2.1, (xapp s3.2.2.2.2.2.2.2 ((iwrap .i64 (irem (byteAt s3.1 (i2n (iadd .i64 1 (iquo .i64 s3.2.2.2.1 2)))) 16)) :: ([] : (List Int)))))))))))))))))))
          (Option.map Sum.inr
            (chk (okDiv 2)
          (chk (okTo (iadd .i64 1 (iquo .i64 (iadd .i64 s3.2.1 1) 2)) (slen s3.1))
          (some (s3.2.2.2.2.2.2, ((ssub s3.1 (i2n (iadd .i64 1 (iquo .i64 (iadd .i64 s3.2.1 1) 2))) (slen s3.1)), true))))))))
        (x, ((iadd .i64 (iwrap .i64 (irem (byteAt x (i2n 0)) 16)) 1), ((iadd .i64 (iwrap .i64 (irem (byteAt x (i2n 0)) 16)) 1), (0, (0, (([] : (List Int)), ((iadd .i64 (iwrap .i64 (iquo .u8 (byteAt x (i2n 0)) 16)) 1), ([] : (List Int)))))))))))))))))

noncomputable def F_i_PackRegister (x : (Int × (List Int))) : Option (ByteArray × Int) :=
  (Option.bind (F_i_ValidRegister x) fun r1 =>
    (cond (bnot r1)
      (some ((ByteArray.mk #[]), 1))
      (Option.bind (F_i_Register_bytes x) fun r3 =>
        (chk (okRoom (xlen (82 :: ([] : (List Int)))) (xlen r3) 1)
        (Option.bind (F_i_sealed (xapp (82 :: ([] : (List Int))) r3)) fun r4 =>
          (some (r4, 0)))))))

noncomputable def F_i_UnpackRegister (x : ByteArray) : Option ((Int × (List Int)) × Int) :=
  (cond (seq x (ByteArray.mk #[]))
    (some ((0, ([] : (List Int))), 8))
    (chk (okTo 1 (slen x))
    (Option.bind (F_i_takeRegister (ssub x (i2n 1) (slen x))) fun r2 =>
      (Option.bind (F_i_PackRegister r2.1) fun r3 =>
        (cond (bnot r2.2.2)
          (some ((0, ([] : (List Int))), 8))
          (cond (ine r3.2 0)
            (some ((0, ([] : (List Int))), 8))
            (cond (sne r3.1 x)
              (some ((0, ([] : (List Int))), 8))
              (some (r2.1, 0)))))))))

noncomputable def F_l_heldInt64S (x : ((List Int) × Int)) : Option Int :=
  (iter (σ := (Int × (Int × (List Int)))) (fun s1 =>
    (cond (ilt s1.2.1 (n2i (xlen s1.2.2)))
      (chk (okIx s1.2.1 (xlen s1.2.2))
      (cond (ine (xget s1.2.2 (i2n s1.2.1) 0) s1.1)
        (some (.inr (-1)))
        (some (.inl ((iadd .i64 s1.1 1), ((iadd .i64 s1.2.1 1), s1.2.2))))))
      (some (.inr s1.1))))
    (x.2, (0, x.1)))

noncomputable def F_l_heldRegister (x : ((Int × (List Int)) × Int)) : Option Int :=
  (Option.bind (F_l_heldInt64S (x.1.2, x.2)) fun r1 =>
    (cond (ilt r1 0)
      (some (-1))
      (some r1)))

noncomputable def F_l_FnExactUnpackRegister (x : ByteArray) : Option Bool :=
  (cond (igt (n2i (slen x)) 1048576)
    (some true)
    (Option.bind (F_s_UnpackRegister x) fun r2 =>
      (Option.bind (F_i_UnpackRegister x) fun r3 =>
        (Option.bind (F_l_eqRegister (r3.1, r2.1)) fun r4 =>
          (cond (bnot r4)
            (some false)
            (cond (ine r3.2 r2.2)
              (some false)
              (Option.bind (F_l_markRegister (r3.1, 1)) fun r7 =>
                (Option.bind (F_l_heldRegister ((r3.1.1, r7.2.2), 1)) fun r8 =>
                  (cond (ilt r8 0)
                    (some false)
                    (cond (ine r8 r7.1)
                      (some false)
                      (Option.bind (F_i_UnpackRegister x) fun r11 =>
                        (Option.bind (F_l_eqRegister (r11.1, r2.1)) fun r12 =>
                          (cond (bnot r12)
                            (some false)
                            (cond (ine r11.2 r2.2)
                              (some false)
                              (Option.bind (F_l_heldRegister ((r3.1.1, r7.2.2), 1)) fun r15 =>
                                (cond (ilt r15 0)
                                  (some false)
                                  (cond (ine r15 r7.1)
                                    (some false)
                                    (some true))))))))))))))))))

noncomputable def F_s_UnpackMachine (x : ByteArray) : Option (((Int × (List Int)) × ((Int × (List Int)) × ((Int × (List Int)) × Int))) × Int) :=
  (Option.bind (F_s_l27Body (x, 77)) fun r1 =>
    (cond (bnot r1.2)
      (some (((0, ([] : (List Int))), ((0, ([] : (List Int))), ((0, ([] : (List Int))), 0))), 8))
      (cond (seq r1.1 (ByteArray.mk #[]))
        (some (((0, ([] : (List Int))), ((0, ([] : (List Int))), ((0, ([] : (List Int))), 0))), 8))
        (chk (okTo 1 (slen r1.1))
        (Option.bind (F_s_l27Register (ssub r1.1 (i2n 1) (slen r1.1))) fun r4 =>
          (Option.bind (F_s_l27Register r4.2.1) fun r5 =>
            (Option.bind (F_s_l27Register r5.2.1) fun r6 =>
              (chk (okIx 0 (slen r1.1))
              (cond (bnot r4.2.2)
                (some (((0, ([] : (List Int))), ((0, ([] : (List Int))), ((0, ([] : (List Int))), 0))), 8))
                (cond (bnot r5.2.2)
                  (some (((0, ([] : (List Int))), ((0, ([] : (List Int))), ((0, ([] : (List Int))), 0))), 8))
                  (cond (bnot r6.2.2)
                    (some (((0, ([] : (List Int))), ((0, ([] : (List Int))), ((0, ([] : (List Int))), 0))), 8))
                    (cond (sne r6.2.1 (ByteArray.mk #[]))
                      (some (((0, ([] : (List Int))), ((0, ([] : (List Int))), ((0, ([] : (List Int))), 0))), 8))
                      (Option.bind (F_s_l10Ok (r4.1, (r5.1, (r6.1, (iwrap .i64 (byteAt r1.1 (i2n 0))))))) fun r11 =>
                        (cond (bnot r11)
                          (some (((0, ([] : (List Int))), ((0, ([] : (List Int))), ((0, ([] : (List Int))), 0))), 8))
                          (some ((r4.1, (r5.1, (r6.1, (iwrap .i64 (byteAt r1.1 (i2n 0)))))), 0))))))))))))))))

noncomputable def F_i_UnpackMachine (x : ByteArray) : Option (((Int × (List Int)) × ((Int × (List Int)) × ((Int × (List Int)) × Int))) × Int) :=
  (cond (ilt (n2i (slen x)) 2)
    (some (((0, ([] : (List Int))), ((0, ([] : (List Int))), ((0, ([] : (List Int))), 0))), 8))
    (chk (okIx 1 (slen x))
    (chk (okTo 2 (slen x))
    (Option.bind (F_i_takeRegister (ssub x (i2n 2) (slen x))) fun r2 =>
      (Option.bind (F_i_takeRegister r2.2.1) fun r3 =>
        (Option.bind (F_i_takeRegister r3.2.1) fun r4 =>
          (Option.bind (F_i_PackMachine (r2.1, (r3.1, (r4.1, (iwrap .i64 (byteAt x (i2n 1))))))) fun r5 =>
            (cond (bnot (band (beqv r2.2.2 true) (band (beqv r3.2.2 true) (band (beqv r4.2.2 true) true))))
              (some (((0, ([] : (List Int))), ((0, ([] : (List Int))), ((0, ([] : (List Int))), 0))), 8))
              (cond (ine r5.2 0)
                (some (((0, ([] : (List Int))), ((0, ([] : (List Int))), ((0, ([] : (List Int))), 0))), 8))
                (cond (sne r5.1 x)
                  (some (((0, ([] : (List Int))), ((0, ([] : (List Int))), ((0, ([] : (List Int))), 0))), 8))
                  (some ((r2.1, (r3.1, (r4.1, (iwrap .i64 (byteAt x (i2n 1)))))), 0))))))))))))

noncomputable def F_l_markMachine (x : (((Int × (List Int)) × ((Int × (List Int)) × ((Int × (List Int)) × Int))) × Int)) : Option (Int × ((Int × (List Int)) × ((Int × (List Int)) × ((Int × (List Int)) × Int)))) :=
  (Option.bind (F_l_markRegister (x.1.1, x.2)) fun r1 =>
    (Option.bind (F_l_markRegister (x.1.2.1, r1.1)) fun r2 =>
      (Option.bind (F_l_markRegister (x.1.2.2.1, r2.1)) fun r3 =>
        (some (r3.1, ((x.1.1.1, r1.2.2), ((x.1.2.1.1, r2.2.2), ((x.1.2.2.1.1, r3.2.2), x.1.2.2.2))))))))

noncomputable def F_l_heldMachine (x : (((Int × (List Int)) × ((Int × (List Int)) × ((Int × (List Int)) × Int))) × Int)) : Option Int :=
  (Option.bind (F_l_heldRegister (x.1.1, x.2)) fun r1 =>
    (cond (ilt r1 0)
      (some (-1))
      (Option.bind (F_l_heldRegister (x.1.2.1, r1)) fun r3 =>
        (cond (ilt r3 0)
          (some (-1))
          (Option.bind (F_l_heldRegister (x.1.2.2.1, r3)) fun r5 =>
            (cond (ilt r5 0)
              (some (-1))
              (some r5)))))))

noncomputable def F_l_FnExactUnpackMachine (x : ByteArray) : Option Bool :=
  (cond (igt (n2i (slen x)) 1048576)
    (some true)
    (Option.bind (F_s_UnpackMachine x) fun r2 =>
      (Option.bind (F_i_UnpackMachine x) fun r3 =>
        (Option.bind (F_l_eqMachine ((r3.1.1, (r3.1.2.1, (r3.1.2.2.1, r3.1.2.2.2))), (r2.1.1, (r2.1.2.1, (r2.1.2.2.1, r2.1.2.2.2))))) fun r4 =>
          (cond (bnot r4)
            (some false)
            (cond (ine r3.2 r2.2)
              (some false)
              (Option.bind (F_l_markMachine ((r3.1.1, (r3.1.2.1, (r3.1.2.2.1, r3.1.2.2.2))), 1)) fun r7 =>
                (Option.bind (F_l_heldMachine (((r3.1.1.1, r7.2.1.2), ((r3.1.2.1.1, r7.2.2.1.2), ((r3.1.2.2.1.1, r7.2.2.2.1.2), r3.1.2.2.2))), 1)) fun r8 =>
                  (cond (ilt r8 0)
                    (some false)
                    (cond (ine r8 r7.1)
                      (some false)
                      (Option.bind (F_i_UnpackMachine x) fun r11 =>
                        (Option.bind (F_l_eqMachine ((r11.1.1, (r11.1.2.1, (r11.1.2.2.1, r11.1.2.2.2))), (r2.1.1, (r2.1.2.1, (r2.1.2.2.1, r2.1.2.2.2))))) fun r12 =>
                          (cond (bnot r12)
                            (some false)
                            (cond (ine r11.2 r2.2)
                              (some false)
                              (Option.bind (F_l_heldMachine (((r3.1.1.1, r7.2.1.2), ((r3.1.2.1.1, r7.2.2.1.2), ((r3.1.2.2.1.1, r7.2.2.2.1.2), r3.1.2.2.2))), 1)) fun r15 =>
                                (cond (ilt r15 0)
                                  (some false)
                                  (cond (ine r15 r7.1)
                                    (some false)
                                    (some true))))))))))))))))))

noncomputable def F_l_szStringS (x : ((List ByteArray) × Int)) : Option Int :=
  (cond (ilt (isub .i64 x.2 (n2i (xlen x.1))) 0)
    (some (-1))
    (iter (σ := (Int × (Int × (List ByteArray)))) (fun s2 =>
      (cond (ilt s2.2.1 (n2i (xlen s2.2.2)))
        (chk (okIx s2.2.1 (xlen s2.2.2))
        (cond (ilt (isub .i64 s2.1 (n2i (slen (xget s2.2.2 (i2n s2.2.1) (ByteArray.mk #[]))))) 0)
          (some (.inr (-1)))
          (some (.inl ((isub .i64 s2.1 (n2i (slen (xget s2.2.2 (i2n s2.2.1) (ByteArray.mk #[]))))), ((iadd .i64 s2.2.1 1), s2.2.2))))))
        (some (.inr s2.1))))
      ((isub .i64 x.2 (n2i (xlen x.1))), (0, x.1))))

noncomputable def F_l_szEntry (x : ((Int × (ByteArray × (ByteArray × (Int × (List ByteArray))))) × Int)) : Option Int :=
  (cond (ilt (isub .i64 x.2 (n2i (slen x.1.2.1))) 0)
    (some (-1))
    (cond (ilt (isub .i64 (isub .i64 x.2 (n2i (slen x.1.2.1))) (n2i (slen x.1.2.2.1))) 0)
      (some (-1))
      (Option.bind (F_l_szStringS (x.1.2.2.2.2, (isub .i64 (isub .i64 x.2 (n2i (slen x.1.2.1))) (n2i (slen x.1.2.2.1))))) fun r3 =>
        (cond (ilt r3 0)
          (some (-1))
          (some r3)))))

noncomputable def F_l_szEntryS (x : ((List (Int × (ByteArray × (ByteArray × (Int × (List ByteArray)))))) × Int)) : Option Int :=
  (cond (ilt (isub .i64 x.2 (n2i (xlen x.1))) 0)
    (some (-1))
    (iter (σ := (Int × (Int × (List (Int × (ByteArray × (ByteArray × (Int × (List ByteArray))))))))) (fun s2 =>
      (cond (ilt s2.2.1 (n2i (xlen s2.2.2)))
        (chk (okIx s2.2.1 (xlen s2.2.2))
        (Option.bind (F_l_szEntry (((xget s2.2.2 (i2n s2.2.1) (0, ((ByteArray.mk #[]), ((ByteArray.mk #[]), (0, ([] : (List ByteArray))))))).1, ((xget s2.2.2 (i2n s2.2.1) (0, ((ByteArray.mk #[]), ((ByteArray.mk #[]), (0, ([] : (List ByteArray))))))).2.1, ((xget s2.2.2 (i2n s2.2.1) (0, ((ByteArray.mk #[]), ((ByteArray.mk #[]), (0, ([] : (List ByteArray))))))).2.2.1, (xget s2.2.2 (i2n s2.2.1) (0, ((ByteArray.mk #[]), ((ByteArray.mk #[]), (0, ([] : (List ByteArray))))))).2.2.2))), s2.1)) fun r4 =>
          (cond (ilt r4 0)
            (some (.inr (-1)))
            (some (.inl (r4, ((iadd .i64 s2.2.1 1), s2.2.2)))))))
        (some (.inr s2.1))))
      ((isub .i64 x.2 (n2i (xlen x.1))), (0, x.1))))

noncomputable def F_s_l01Small (x : Int) : Option Bool :=
  (cond (ige x 97)
    (some (ile x 122))
    (some false))

noncomputable def F_s_l01Digit (x : Int) : Option Bool :=
  (cond (ige x 48)
    (some (ile x 57))
    (some false))

noncomputable def F_s_IsName (x : ByteArray) : Option Bool :=
  (cond (seq x (ByteArray.mk #[]))
    (some false)
    (cond (igt (n2i (slen x)) 12)
      (some false)
      (chk (okIx 0 (slen x))
      (Option.bind (F_s_l01Small (byteAt x (i2n 0))) fun r3 =>
        (cond (bnot r3)
          (some false)
          (iter (σ := (ByteArray × Int)) (fun s5 =>
            (cond (ilt s5.2 (n2i (slen s5.1)))
              (chk (okIx s5.2 (slen s5.1))
              (Option.bind (F_s_l01Small (byteAt s5.1 (i2n s5.2))) fun r7 =>
                (cond (bnot r7)
                  (chk (okIx s5.2 (slen s5.1))
                  (Option.bind (F_s_l01Digit (byteAt s5.1 (i2n s5.2))) fun r9 =>
                    (cond (bnot r9)
                      (chk (okIx s5.2 (slen s5.1))
                      (cond (ine (byteAt s5.1 (i2n s5.2)) 45)
                        (some (.inr false))
                        (some (.inl (s5.1, (iadd .i64 s5.2 1))))))
                      (some (.inl (s5.1, (iadd .i64 s5.2 1)))))))
                  (some (.inl (s5.1, (iadd .i64 s5.2 1)))))))
              (some (.inr true))))
            (x, 0)))))))

noncomputable def F_s_l25One (x : (Int × (ByteArray × (ByteArray × (Int × (List ByteArray)))))) : Option Bool :=
  (Option.bind (F_s_l00In (x.1, (1, 1000000))) fun r1 =>
    (cond (bnot r1)
      (some false)
      (Option.bind (F_s_IsName x.2.1) fun r3 =>
        (cond (bnot r3)
          (some false)
          (Option.bind (F_s_IsName x.2.2.1) fun r5 =>
            (cond (bnot r5)
              (some false)
              (Option.bind (F_s_l00In (x.2.2.2.1, (1000, 3000))) fun r7 =>
                (cond (bnot r7)
                  (some false)
                  (cond (igt (n2i (xlen x.2.2.2.2)) 8)
                    (some false)
                    (iter (σ := (Int × (List (Int × (ByteArray × (ByteArray × (Int × (List ByteArray)))))))) (fun s10 =>
                      (cond (ilt s10.1 (n2i (xlen (xget s10.2 0 (0, ((ByteArray.mk #[]), ((ByteArray.mk #[]), (0, ([] : (List ByteArray))))))).2.2.2.2)))
                        (chk (okIx s10.1 (xlen (xget s10.2 0 (0, ((ByteArray.mk #[]), ((ByteArray.mk #[]), (0, ([] : (List ByteArray))))))).2.2.2.2))
                        (Option.bind (F_s_IsName (xget (xget s10.2 0 (0, ((ByteArray.mk #[]), ((ByteArray.mk #[]), (0, ([] : (List ByteArray))))))).2.2.2.2 (i2n s10.1) (ByteArray.mk #[]))) fun r12 =>
                          (cond (bnot r12)
                            (some (.inr false))
                            (cond (igt s10.1 0)
                              (chk (okIx (isub .i64 s10.1 1) (xlen (xget s10.2 0 (0, ((ByteArray.mk #[]), ((ByteArray.mk #[]), (0, ([] : (List ByteArray))))))).2.2.2.2))
                              (chk (okIx s10.1 (xlen (xget s10.2 0 (0, ((ByteArray.mk #[]), ((ByteArray.mk #[]), (0, ([] : (List ByteArray))))))).2.2.2.2))
                              (cond (sge (xget (xget s10.2 0 (0, ((ByteArray.mk #[]), ((ByteArray.mk #[]), (0, ([] : (List ByteArray))))))).2.2.2.2 (i2n (isub .i64 s10.1 1)) (ByteArray.mk #[])) (xget (xget s10.2 0 (0, ((ByteArray.mk #[]), ((ByteArray.mk #[]), (0, ([] : (List ByteArray))))))).2.2.2.2 (i2n s10.1) (ByteArray.mk #[])))
                                (some (.inr false))
                                (some (.inl ((iadd .i64 s10.1 1), s10.2))))))
                              (some (.inl ((iadd .i64 s10.1 1), s10.2)))))))
                        (some (.inr true))))
                      (0, (x :: ([] : (List (Int × (ByteArray × (ByteArray × (Int × (List ByteArray)))))))))))))))))))

noncomputable def F_s_l25Ok (x : (List (Int × (ByteArray × (ByteArray × (Int × (List ByteArray))))))) : Option Bool :=
  (iter (σ := (Int × (List (Int × (ByteArray × (ByteArray × (Int × (List ByteArray)))))))) (fun s1 =>
    (cond (ilt s1.1 (n2i (xlen s1.2)))
      (chk (okIx s1.1 (xlen s1.2))
      (Option.bind (F_s_l25One (xget s1.2 (i2n s1.1) (0, ((ByteArray.mk #[]), ((ByteArray.mk #[]), (0, ([] : (List ByteArray)))))))) fun r3 =>
        (cond (bnot r3)
          (some (.inr false))
          (cond (igt s1.1 0)
            (chk (okIx (isub .i64 s1.1 1) (xlen s1.2))
            (chk (okIx s1.1 (xlen s1.2))
            (cond (ige (xget s1.2 (i2n (isub .i64 s1.1 1)) (0, ((ByteArray.mk #[]), ((ByteArray.mk #[]), (0, ([] : (List ByteArray))))))).1 (xget s1.2 (i2n s1.1) (0, ((ByteArray.mk #[]), ((ByteArray.mk #[]), (0, ([] : (List ByteArray))))))).1)
              (some (.inr false))
              (some (.inl ((iadd .i64 s1.1 1), s1.2))))))
            (some (.inl ((iadd .i64 s1.1 1), s1.2)))))))
      (some (.inr (ile (n2i (xlen s1.2)) 50)))))
    (0, x))

noncomputable def F_s_l25Find (x : ((List (Int × (ByteArray × (ByteArray × (Int × (List ByteArray)))))) × Int)) : Option Int :=
  (iter (σ := (Int × (Int × (List (Int × (ByteArray × (ByteArray × (Int × (List ByteArray))))))))) (fun s1 =>
    (cond (ilt s1.2.1 (n2i (xlen s1.2.2)))
      (chk (okIx s1.2.1 (xlen s1.2.2))
      (cond (ieq (xget s1.2.2 (i2n s1.2.1) (0, ((ByteArray.mk #[]), ((ByteArray.mk #[]), (0, ([] : (List ByteArray))))))).1 s1.1)
        (some (.inr s1.2.1))
        (some (.inl (s1.1, ((iadd .i64 s1.2.1 1), s1.2.2))))))
      (some (.inr (-1)))))
    (x.2, (0, x.1)))

noncomputable def F_s_l25Ask (x : ((List (Int × (ByteArray × (ByteArray × (Int × (List ByteArray)))))) × Int)) : Option (Int × Int) :=
  (Option.bind (F_s_l25Ok x.1) fun r1 =>
    (cond (bnot r1)
      (some (0, 1))
      (Option.bind (F_s_l25Find x) fun r3 =>
        (cond (ilt r3 0)
          (some (0, 3))
          (some (r3, 0))))))

noncomputable def F_s_l25Own (x : (Int × (ByteArray × (ByteArray × (Int × (List ByteArray)))))) : Option (Int × (ByteArray × (ByteArray × (Int × (List ByteArray))))) :=
  (chk (okRoom (xlen ([] : (List ByteArray))) (xlen x.2.2.2.2) 16)
  (some (x.1, (x.2.1, (x.2.2.1, (x.2.2.2.1, (xapp ([] : (List ByteArray)) x.2.2.2.2)))))))

noncomputable def F_s_EntryNumbered (x : ((List (Int × (ByteArray × (ByteArray × (Int × (List ByteArray)))))) × Int)) : Option ((Int × (ByteArray × (ByteArray × (Int × (List ByteArray))))) × Int) :=
  (Option.bind (F_s_l25Ask x) fun r1 =>
    (cond (ine r1.2 0)
      (some ((0, ((ByteArray.mk #[]), ((ByteArray.mk #[]), (0, ([] : (List ByteArray)))))), r1.2))
      (chk (okIx r1.1 (xlen x.1))
      (Option.bind (F_s_l25Own (xget x.1 (i2n r1.1) (0, ((ByteArray.mk #[]), ((ByteArray.mk #[]), (0, ([] : (List ByteArray)))))))) fun r3 =>
        (some ((r3.1, (r3.2.1, (r3.2.2.1, r3.2.2.2))), 0))))))

noncomputable def F_l_toStringS (x : (List ByteArray)) : Option (List ByteArray) :=
  (chk (ieq (n2i (xlen x)) (n2i (xlen x)))
  (chk (okMake (n2i (xlen x)) 16)
  (iter (σ := (Int × ((List ByteArray) × (List ByteArray)))) (fun s1 =>
    (cond (ilt s1.1 (n2i (xlen s1.2.1)))
      (chk (okIx s1.1 (xlen s1.2.1))
      (chk (okIx s1.1 (xlen s1.2.2))
      (some (.inl ((iadd .i64 s1.1 1), (s1.2.1, (xset s1.2.2 (i2n s1.1) (xget s1.2.1 (i2n s1.1) (ByteArray.mk #[])))))))))
      (some (.inr s1.2.2))))
    (0, (x, (xrep (i2n (n2i (xlen x))) (ByteArray.mk #[])))))))

noncomputable def F_l_toEntry (x : (Int × (ByteArray × (ByteArray × (Int × (List ByteArray)))))) : Option (Int × (ByteArray × (ByteArray × (Int × (List ByteArray))))) :=
  (Option.bind (F_l_toStringS x.2.2.2.2) fun r1 =>
    (some (x.1, (x.2.1, (x.2.2.1, (x.2.2.2.1, r1))))))

noncomputable def F_l_toEntryS (x : (List (Int × (ByteArray × (ByteArray × (Int × (List ByteArray))))))) : Option (List (Int × (ByteArray × (ByteArray × (Int × (List ByteArray)))))) :=
  (chk (ieq (n2i (xlen x)) (n2i (xlen x)))
  (chk (okMake (n2i (xlen x)) 72)
  (iter (σ := (Int × ((List (Int × (ByteArray × (ByteArray × (Int × (List ByteArray)))))) × (List (Int × (ByteArray × (ByteArray × (Int × (List ByteArray))))))))) (fun s1 =>
    (cond (ilt s1.1 (n2i (xlen s1.2.1)))
      (chk (okIx s1.1 (xlen s1.2.1))
      (Option.bind (F_l_toEntry ((xget s1.2.1 (i2n s1.1) (0, ((ByteArray.mk #[]), ((ByteArray.mk #[]), (0, ([] : (List ByteArray))))))).1, ((xget s1.2.1 (i2n s1.1) (0, ((ByteArray.mk #[]), ((ByteArray.mk #[]), (0, ([] : (List ByteArray))))))).2.1, ((xget s1.2.1 (i2n s1.1) (0, ((ByteArray.mk #[]), ((ByteArray.mk #[]), (0, ([] : (List ByteArray))))))).2.2.1, (xget s1.2.1 (i2n s1.1) (0, ((ByteArray.mk #[]), ((ByteArray.mk #[]), (0, ([] : (List ByteArray))))))).2.2.2)))) fun r3 =>
        (chk (okIx s1.1 (xlen s1.2.2))
        (some (.inl ((iadd .i64 s1.1 1), (s1.2.1, (xset s1.2.2 (i2n s1.1) (r3.1, (r3.2.1, (r3.2.2.1, r3.2.2.2)))))))))))
      (some (.inr s1.2.2))))
    (0, (x, (xrep (i2n (n2i (xlen x))) (0, ((ByteArray.mk #[]), ((ByteArray.mk #[]), (0, ([] : (List ByteArray))))))))))))

noncomputable def F_i_isDigit (x : Int) : Option Bool :=
  (cond (ige x 48)
    (some (ile x 57))
    (some false))

noncomputable def F_i_IsName (x : ByteArray) : Option Bool :=
  (cond (ieq (n2i (slen x)) 0)
    (some false)
    (cond (igt (n2i (slen x)) 12)
      (some false)
      (iter (σ := (ByteArray × (Int × Int))) (fun s3 =>
        (cond (ilt s3.2.2 s3.2.1)
          (chk (okIx s3.2.2 (slen s3.1))
          (cond (ige (byteAt s3.1 (i2n s3.2.2)) 97)
            (chk (okIx s3.2.2 (slen s3.1))
            (cond (bnot (ile (byteAt s3.1 (i2n s3.2.2)) 122))
              (cond (ieq s3.2.2 0)
                (some (.inr false))
                (chk (okIx s3.2.2 (slen s3.1))
                (cond (ine (byteAt s3.1 (i2n s3.2.2)) 45)
                  (chk (okIx s3.2.2 (slen s3.1))
                  (Option.bind (F_i_isDigit (byteAt s3.1 (i2n s3.2.2))) fun r9 =>
                    (cond (bnot r9)
                      (some (.inr false))
                      (some (.inl (s3.1, (s3.2.1, (iadd .i64 s3.2.2 1))))))))
                  (some (.inl (s3.1, (s3.2.1, (iadd .i64 s3.2.2 1))))))))
              (some (.inl (s3.1, (s3.2.1, (iadd .i64 s3.2.2 1)))))))
            (cond (bnot false)
              (cond (ieq s3.2.2 0)
                (some (.inr false))
                (chk (okIx s3.2.2 (slen s3.1))
                (cond (ine (byteAt s3.1 (i2n s3.2.2)) 45)
                  (chk (okIx s3.2.2 (slen s3.1))
                  (Option.bind (F_i_isDigit (byteAt s3.1 (i2n s3.2.2))) fun r9 =>
                    (cond (bnot r9)
                      (some (.inr false))
                      (some (.inl (s3.1, (s3.2.1, (iadd .i64 s3.2.2 1))))))))
                  (some (.inl (s3.1, (s3.2.1, (iadd .i64 s3.2.2 1))))))))
              (some (.inl (s3.1, (s3.2.1, (iadd .i64 s3.2.2 1))))))))
          (some (.inr true))))
        (x, ((n2i (slen x)), 0)))))

noncomputable def F_i_validEntry (x : (Int × (ByteArray × (ByteArray × (Int × (List ByteArray)))))) : Option Bool :=
  (Option.bind (F_i_between (x.1, (1, 1000000))) fun r1 =>
    (cond (bnot r1)
      (some false)
      (Option.bind (F_i_IsName x.2.1) fun r3 =>
        (cond (bnot r3)
          (some false)
          (Option.bind (F_i_IsName x.2.2.1) fun r5 =>
            (cond (bnot r5)
              (some false)
              (Option.bind (F_i_between (x.2.2.2.1, (1000, 3000))) fun r7 =>
                (cond (bnot r7)
                  (some false)
                  (cond (igt (n2i (xlen x.2.2.2.2)) 8)
                    (some false)
                    (iter (σ := (Int × (Int × (Int × (ByteArray × (ByteArray × (Int × (List ByteArray)))))))) (fun s10 =>
                      (cond (ilt s10.2.1 s10.1)
                        (chk (okIx s10.2.1 (xlen s10.2.2.2.2.2.2))
                        (Option.bind (F_i_IsName (xget s10.2.2.2.2.2.2 (i2n s10.2.1) (ByteArray.mk #[]))) fun r12 =>
                          (cond (bnot r12)
                            (some (.inr false))
                            (cond (igt s10.2.1 0)
                              (chk (okIx (isub .i64 s10.2.1 1) (xlen s10.2.2.2.2.2.2))
                              (cond (sle (xget s10.2.2.2.2.2.2 (i2n s10.2.1) (ByteArray.mk #[])) (xget s10.2.2.2.2.2.2 (i2n (isub .i64 s10.2.1 1)) (ByteArray.mk #[])))
                                (some (.inr false))
                                (some (.inl (s10.1, ((iadd .i64 s10.2.1 1), (s10.2.2.1, (s10.2.2.2.1, (s10.2.2.2.2.1, s10.2.2.2.2.2)))))))))
                              (some (.inl (s10.1, ((iadd .i64 s10.2.1 1), (s10.2.2.1, (s10.2.2.2.1, (s10.2.2.2.2.1, s10.2.2.2.2.2)))))))))))
                        (some (.inr true))))
                      ((n2i (xlen x.2.2.2.2)), (0, (x.1, (x.2.1, (x.2.2.1, x.2.2.2)))))))))))))))

noncomputable def F_i_ValidEntries (x : (List (Int × (ByteArray × (ByteArray × (Int × (List ByteArray))))))) : Option Bool :=
  (iter (σ := (Int × (Int × (List (Int × (ByteArray × (ByteArray × (Int × (List ByteArray))))))))) (fun s1 =>
    (cond (ilt s1.2.1 s1.1)
      (chk (okIx s1.2.1 (xlen s1.2.2))
      (Option.bind (F_i_validEntry ((xget s1.2.2 (i2n s1.2.1) (0, ((ByteArray.mk #[]), ((ByteArray.mk #[]), (0, ([] : (List ByteArray))))))).1, ((xget s1.2.2 (i2n s1.2.1) (0, ((ByteArray.mk #[]), ((ByteArray.mk #[]), (0, ([] : (List ByteArray))))))).2.1, ((xget s1.2.2 (i2n s1.2.1) (0, ((ByteArray.mk #[]), ((ByteArray.mk #[]), (0, ([] : (List ByteArray))))))).2.2.1, (xget s1.2.2 (i2n s1.2.1) (0, ((ByteArray.mk #[]), ((ByteArray.mk #[]), (0, ([] : (List ByteArray))))))).2.2.2)))) fun r3 =>
        (cond (bnot r3)
          (some (.inr false))
          (cond (igt s1.2.1 0)
            (chk (okIx (isub .i64 s1.2.1 1) (xlen s1.2.2))
            (cond (ile (xget s1.2.2 (i2n s1.2.1) (0, ((ByteArray.mk #[]), ((ByteArray.mk #[]), (0, ([] : (List ByteArray))))))).1 (xget s1.2.2 (i2n (isub .i64 s1.2.1 1)) (0, ((ByteArray.mk #[]), ((ByteArray.mk #[]), (0, ([] : (List ByteArray))))))).1)
              (some (.inr false))
              (some (.inl (s1.1, ((iadd .i64 s1.2.1 1), s1.2.2))))))
            (some (.inl (s1.1, ((iadd .i64 s1.2.1 1), s1.2.2))))))))
      (some (.inr (ile (n2i (xlen s1.2.2)) 50)))))
    ((n2i (xlen x)), (0, x)))

noncomputable def F_i_entryAt (x : ((List (Int × (ByteArray × (ByteArray × (Int × (List ByteArray)))))) × Int)) : Option Int :=
  (iter (σ := (Int × (Int × (Int × (List (Int × (ByteArray × (ByteArray × (Int × (List ByteArray)))))))))) (fun s1 =>
    (cond (ilt s1.2.2.1 s1.2.1)
      (chk (okIx s1.2.2.1 (xlen s1.2.2.2))
      (cond (ieq (xget s1.2.2.2 (i2n s1.2.2.1) (0, ((ByteArray.mk #[]), ((ByteArray.mk #[]), (0, ([] : (List ByteArray))))))).1 s1.1)
        (some (.inr s1.2.2.1))
        (some (.inl (s1.1, (s1.2.1, ((iadd .i64 s1.2.2.1 1), s1.2.2.2)))))))
      (some (.inr (-1)))))
    (x.2, ((n2i (xlen x.1)), (0, x.1))))

noncomputable def F_i_Entry_copied (x : (Int × (ByteArray × (ByteArray × (Int × (List ByteArray)))))) : Option (Int × (ByteArray × (ByteArray × (Int × (List ByteArray))))) :=
  (chk (okRoom (xlen ([] : (List ByteArray))) (xlen x.2.2.2.2) 16)
  (some (x.1, (x.2.1, (x.2.2.1, (x.2.2.2.1, (xapp ([] : (List ByteArray)) x.2.2.2.2)))))))

noncomputable def F_i_EntryNumbered (x : ((List (Int × (ByteArray × (ByteArray × (Int × (List ByteArray)))))) × Int)) : Option ((Int × (ByteArray × (ByteArray × (Int × (List ByteArray))))) × Int) :=
  (Option.bind (F_i_ValidEntries x.1) fun r1 =>
    (cond (bnot r1)
      (some ((0, ((ByteArray.mk #[]), ((ByteArray.mk #[]), (0, ([] : (List ByteArray)))))), 1))
      (Option.bind (F_i_entryAt x) fun r3 =>
        (cond (ilt r3 0)
          (some ((0, ((ByteArray.mk #[]), ((ByteArray.mk #[]), (0, ([] : (List ByteArray)))))), 3))
          (chk (okIx r3 (xlen x.1))
          (Option.bind (F_i_Entry_copied ((xget x.1 (i2n r3) (0, ((ByteArray.mk #[]), ((ByteArray.mk #[]), (0, ([] : (List ByteArray))))))).1, ((xget x.1 (i2n r3) (0, ((ByteArray.mk #[]), ((ByteArray.mk #[]), (0, ([] : (List ByteArray))))))).2.1, ((xget x.1 (i2n r3) (0, ((ByteArray.mk #[]), ((ByteArray.mk #[]), (0, ([] : (List ByteArray))))))).2.2.1, (xget x.1 (i2n r3) (0, ((ByteArray.mk #[]), ((ByteArray.mk #[]), (0, ([] : (List ByteArray))))))).2.2.2)))) fun r5 =>
            (some ((r5.1, (r5.2.1, (r5.2.2.1, r5.2.2.2))), 0))))))))

noncomputable def F_l_eqStringS (x : ((List ByteArray) × (List ByteArray))) : Option Bool :=
  (cond (ine (n2i (xlen x.1)) (n2i (xlen x.2)))
    (some false)
    (iter (σ := (Int × ((List ByteArray) × (List ByteArray)))) (fun s2 =>
      (cond (ilt s2.1 (n2i (xlen s2.2.1)))
        (chk (okIx s2.1 (xlen s2.2.1))
        (chk (okIx s2.1 (xlen s2.2.2))
        (cond (sne (xget s2.2.1 (i2n s2.1) (ByteArray.mk #[])) (xget s2.2.2 (i2n s2.1) (ByteArray.mk #[])))
          (some (.inr false))
          (some (.inl ((iadd .i64 s2.1 1), s2.2))))))
        (some (.inr true))))
      (0, x)))

noncomputable def F_l_eqEntry (x : ((Int × (ByteArray × (ByteArray × (Int × (List ByteArray))))) × (Int × (ByteArray × (ByteArray × (Int × (List ByteArray))))))) : Option Bool :=
  (cond (ine x.1.1 x.2.1)
    (some false)
    (cond (sne x.1.2.1 x.2.2.1)
      (some false)
      (cond (sne x.1.2.2.1 x.2.2.2.1)
        (some false)
        (cond (ine x.1.2.2.2.1 x.2.2.2.2.1)
          (some false)
          (Option.bind (F_l_eqStringS (x.1.2.2.2.2, x.2.2.2.2.2)) fun r5 =>
            (cond (bnot r5)
              (some false)
              (some true)))))))

noncomputable def F_l_eqEntryS (x : ((List (Int × (ByteArray × (ByteArray × (Int × (List ByteArray)))))) × (List (Int × (ByteArray × (ByteArray × (Int × (List ByteArray)))))))) : Option Bool :=
  (cond (ine (n2i (xlen x.1)) (n2i (xlen x.2)))
    (some false)
    (iter (σ := (Int × ((List (Int × (ByteArray × (ByteArray × (Int × (List ByteArray)))))) × (List (Int × (ByteArray × (ByteArray × (Int × (List ByteArray))))))))) (fun s2 =>
      (cond (ilt s2.1 (n2i (xlen s2.2.1)))
        (chk (okIx s2.1 (xlen s2.2.1))
        (chk (okIx s2.1 (xlen s2.2.2))
        (Option.bind (F_l_eqEntry (((xget s2.2.1 (i2n s2.1) (0, ((ByteArray.mk #[]), ((ByteArray.mk #[]), (0, ([] : (List ByteArray))))))).1, ((xget s2.2.1 (i2n s2.1) (0, ((ByteArray.mk #[]), ((ByteArray.mk #[]), (0, ([] : (List ByteArray))))))).2.1, ((xget s2.2.1 (i2n s2.1) (0, ((ByteArray.mk #[]), ((ByteArray.mk #[]), (0, ([] : (List ByteArray))))))).2.2.1, (xget s2.2.1 (i2n s2.1) (0, ((ByteArray.mk #[]), ((ByteArray.mk #[]), (0, ([] : (List ByteArray))))))).2.2.2))), ((xget s2.2.2 (i2n s2.1) (0, ((ByteArray.mk #[]), ((ByteArray.mk #[]), (0, ([] : (List ByteArray))))))).1, ((xget s2.2.2 (i2n s2.1) (0, ((ByteArray.mk #[]), ((ByteArray.mk #[]), (0, ([] : (List ByteArray))))))).2.1, ((xget s2.2.2 (i2n s2.1) (0, ((ByteArray.mk #[]), ((ByteArray.mk #[]), (0, ([] : (List ByteArray))))))).2.2.1, (xget s2.2.2 (i2n s2.1) (0, ((ByteArray.mk #[]), ((ByteArray.mk #[]), (0, ([] : (List ByteArray))))))).2.2.2))))) fun r4 =>
          (cond (bnot r4)
            (some (.inr false))
            (some (.inl ((iadd .i64 s2.1 1), s2.2)))))))
        (some (.inr true))))
      (0, x)))

noncomputable def F_l_markText (x : Int) : Option (ByteArray × Int) :=
  (cond (ile x 0)
    (some ((ByteArray.mk #[109, 48]), x))
    (iter (σ := (Int × (ByteArray × Int))) (fun s2 =>
      (cond (igt s2.1 0)
        (chk (okDiv 10)
        (chk (okCat (slen (b2s ((iwrap .u8 (iadd .i64 48 (irem s2.1 10))) :: ([] : (List Int))))) (slen s2.2.1))
        (chk (okDiv 10)
        (some (.inl ((iquo .i64 s2.1 10), ((sadd (b2s ((iwrap .u8 (iadd .i64 48 (irem s2.1 10))) :: ([] : (List Int)))) s2.2.1), s2.2.2)))))))
        (Option.map Sum.inr
          (chk (okCat (slen (ByteArray.mk #[109])) (slen s2.2.1))
        (some ((sadd (ByteArray.mk #[109]) s2.2.1), s2.2.2))))))
      (x, ((ByteArray.mk #[]), x))))

noncomputable def F_l_markStringS (x : ((List ByteArray) × Int)) : Option (Int × (List ByteArray)) :=
  (iter (σ := (Int × (Int × (List ByteArray)))) (fun s1 =>
    (cond (ilt s1.2.1 (n2i (xlen s1.2.2)))
      (Option.bind (F_l_markText s1.1) fun r3 =>
        (chk (okIx s1.2.1 (xlen s1.2.2))
        (some (.inl ((iadd .i64 s1.1 1), ((iadd .i64 s1.2.1 1), (xset s1.2.2 (i2n s1.2.1) r3.1)))))))
      (some (.inr (s1.1, s1.2.2)))))
    (x.2, (0, x.1)))

noncomputable def F_l_markEntryS (x : ((List (Int × (ByteArray × (ByteArray × (Int × (List ByteArray)))))) × Int)) : Option (Int × (List (Int × (ByteArray × (ByteArray × (Int × (List ByteArray))))))) :=
  (iter (σ := (Int × (Int × (List (Int × (ByteArray × (ByteArray × (Int × (List ByteArray))))))))) (fun s1 =>
    (cond (ilt s1.2.1 (n2i (xlen s1.2.2)))
      (chk (okIx s1.2.1 (xlen s1.2.2))
      (share s1.2.2 fun q3 =>
        (share (xset q3 (i2n s1.2.1) (s1.1, (xget q3 (i2n s1.2.1) (0, ((ByteArray.mk #[]), ((ByteArray.mk #[]), (0, ([] : (List ByteArray))))))).2)) fun q4 =>
          (Option.bind (F_l_markText (iadd .i64 s1.1 1)) fun r5 =>
            (chk (okIx s1.2.1 (xlen q4))
            (share q4 fun q6 =>
              (share (xset q6 (i2n s1.2.1) ((xget q6 (i2n s1.2.1) (0, ((ByteArray.mk #[]), ((ByteArray.mk #[]), (0, ([] : (List ByteArray))))))).1, (r5.1, (xget q6 (i2n s1.2.1) (0, ((ByteArray.mk #[]), ((ByteArray.mk #[]), (0, ([] : (List ByteArray))))))).2.2))) fun q7 =>
                (Option.bind (F_l_markText (iadd .i64 (iadd .i64 s1.1 1) 1)) fun r8 =>
                  (chk (okIx s1.2.1 (xlen q7))
                  (share q7 fun q9 =>
                    (share (xset q9 (i2n s1.2.1) ((xget q9 (i2n s1.2.1) (0, ((ByteArray.mk #[]), ((ByteArray.mk #[]), (0, ([] : (List ByteArray))))))).1, ((xget q9 (i2n s1.2.1) (0, ((ByteArray.mk #[]), ((ByteArray.mk #[]), (0, ([] : (List ByteArray))))))).2.1, (r8.1, (xget q9 (i2n s1.2.1) (0, ((ByteArray.mk #[]), ((ByteArray.mk #[]), (0, ([] : (List ByteArray))))))).2.2.2)))) fun q10 =>
                      (chk (okIx s1.2.1 (xlen q10))
                      (share q10 fun q11 =>
                        (share (xset q11 (i2n s1.2.1) ((xget q11 (i2n s1.2.1) (0, ((ByteArray.mk #[]), ((ByteArray.mk #[]), (0, ([] : (List ByteArray))))))).1, ((xget q11 (i2n s1.2.1) (0, ((ByteArray.mk #[]), ((ByteArray.mk #[]), (0, ([] : (List ByteArray))))))).2.1, ((xget q11 (i2n s1.2.1) (0, ((ByteArray.mk #[]), ((ByteArray.mk #[]), (0, ([] : (List ByteArray))))))).2.2.1, ((iadd .i64 (iadd .i64 (iadd .i64 s1.1 1) 1) 1), (xget q11 (i2n s1.2.1) (0, ((ByteArray.mk #[]), ((ByteArray.mk #[]), (0, ([] : (List ByteArray))))))).2.2.2.2))))) fun q12 =>
                          (chk (okIx s1.2.1 (xlen q12))
                          (Option.bind (F_l_markStringS ((xget q12 (i2n s1.2.1) (0, ((ByteArray.mk #[]), ((ByteArray.mk #[]), (0, ([] : (List ByteArray))))))).2.2.2.2, (iadd .i64 (iadd .i64 (iadd .i64 (iadd .i64 s1.1 1) 1) 1) 1))) fun r13 =>
                            (some (.inl (r13.1, ((iadd .i64 s1.2.1 1), (xset q12 (i2n s1.2.1) ((xget q12 (i2n s1.2.1) (0, ((ByteArray.mk #[]), ((ByteArray.mk #[]), (0, ([] : (List ByteArray))))))).1, ((xget q12 (i2n s1.2.1) (0, ((ByteArray.mk #[]), ((ByteArray.mk #[]), (0, ([] : (List ByteArray))))))).2.1, ((xget q12 (i2n s1.2.1) (0, ((ByteArray.mk #[]), ((ByteArray.mk #[]), (0, ([] : (List ByteArray))))))).2.2.1, ((xget q12 (i2n s1.2.1) (0, ((ByteArray.mk #[]), ((ByteArray.mk #[]), (0, ([] : (List ByteArray))))))).2.2.2.1, r13.2)))))))))))))))))))))))))
      (some (.inr (s1.1, s1.2.2)))))
    (x.2, (0, x.1)))

noncomputable def F_l_markEntry (x : ((Int × (ByteArray × (ByteArray × (Int × (List ByteArray))))) × Int)) : Option (Int × (Int × (ByteArray × (ByteArray × (Int × (List ByteArray)))))) :=
  (Option.bind (F_l_markStringS (x.1.2.2.2.2, x.2)) fun r1 =>
    (some (r1.1, (x.1.1, (x.1.2.1, (x.1.2.2.1, (x.1.2.2.2.1, r1.2)))))))

noncomputable def F_l_heldStringS (x : ((List ByteArray) × Int)) : Option Int :=
  (iter (σ := (Int × (Int × (List ByteArray)))) (fun s1 =>
    (cond (ilt s1.2.1 (n2i (xlen s1.2.2)))
      (chk (okIx s1.2.1 (xlen s1.2.2))
      (Option.bind (F_l_markText s1.1) fun r3 =>
        (cond (sne (xget s1.2.2 (i2n s1.2.1) (ByteArray.mk #[])) r3.1)
          (some (.inr (-1)))
          (some (.inl ((iadd .i64 s1.1 1), ((iadd .i64 s1.2.1 1), s1.2.2)))))))
      (some (.inr s1.1))))
    (x.2, (0, x.1)))

noncomputable def F_l_heldEntry (x : ((Int × (ByteArray × (ByteArray × (Int × (List ByteArray))))) × Int)) : Option Int :=
  (Option.bind (F_l_heldStringS (x.1.2.2.2.2, x.2)) fun r1 =>
    (cond (ilt r1 0)
      (some (-1))
      (some r1)))

noncomputable def F_l_FnExactEntryNumbered (x : ((List (Int × (ByteArray × (ByteArray × (Int × (List ByteArray)))))) × Int)) : Option Bool :=
  (Option.bind (F_l_szEntryS (x.1, 1048576)) fun r1 =>
    (cond (ilt r1 0)
      (some true)
      (Option.bind (F_l_toEntryS x.1) fun r3 =>
        (Option.bind (F_s_EntryNumbered (r3, x.2)) fun r4 =>
          (Option.bind (F_l_toEntryS x.1) fun r5 =>
            (Option.bind (F_i_EntryNumbered (r5, x.2)) fun r6 =>
              (Option.bind (F_l_eqEntry ((r6.1.1, (r6.1.2.1, (r6.1.2.2.1, r6.1.2.2.2))), (r4.1.1, (r4.1.2.1, (r4.1.2.2.1, r4.1.2.2.2))))) fun r7 =>
                (cond (bnot r7)
                  (some false)
                  (cond (ine r6.2 r4.2)
                    (some false)
                    (Option.bind (F_l_toEntryS x.1) fun r10 =>
                      (Option.bind (F_l_eqEntryS (r5, r10)) fun r11 =>
                        (cond (bnot r11)
                          (some false)
                          (Option.bind (F_l_markEntryS (r5, 1)) fun r13 =>
                            (cond (ilt r13.1 0)
                              (some false)
                              (Option.bind (F_l_eqEntry ((r6.1.1, (r6.1.2.1, (r6.1.2.2.1, r6.1.2.2.2))), (r4.1.1, (r4.1.2.1, (r4.1.2.2.1, r4.1.2.2.2))))) fun r15 =>
                                (cond (bnot r15)
                                  (some false)
                                  (cond (ine r6.2 r4.2)
                                    (some false)
                                    (Option.bind (F_l_markEntry ((r6.1.1, (r6.1.2.1, (r6.1.2.2.1, r6.1.2.2.2))), 1)) fun r18 =>
                                      (Option.bind (F_l_heldEntry ((r6.1.1, (r6.1.2.1, (r6.1.2.2.1, (r6.1.2.2.2.1, r18.2.2.2.2.2)))), 1)) fun r19 =>
                                        (cond (ilt r19 0)
                                          (some false)
                                          (cond (ine r19 r18.1)
                                            (some false)
                                            (Option.bind (F_l_toEntryS x.1) fun r22 =>
                                              (Option.bind (F_i_EntryNumbered (r22, x.2)) fun r23 =>
                                                (Option.bind (F_l_eqEntry ((r23.1.1, (r23.1.2.1, (r23.1.2.2.1, r23.1.2.2.2))), (r4.1.1, (r4.1.2.1, (r4.1.2.2.1, r4.1.2.2.2))))) fun r24 =>
                                                  (cond (bnot r24)
                                                    (some false)
                                                    (cond (ine r23.2 r4.2)
                                                      (some false)
                                                      (Option.bind (F_l_heldEntry ((r6.1.1, (r6.1.2.1, (r6.1.2.2.1, (r6.1.2.2.2.1, r18.2.2.2.2.2)))), 1)) fun r27 =>
                                                        (cond (ilt r27 0)
                                                          (some false)
                                                          (cond (ine r27 r18.1)
                                                            (some false)
                                                            (some true))))))))))))))))))))))))))))))

noncomputable def F_s_l25Copy (x : (List (Int × (ByteArray × (ByteArray × (Int × (List ByteArray))))))) : Option (List (Int × (ByteArray × (ByteArray × (Int × (List ByteArray)))))) :=
  (iter (σ := (Int × ((List (Int × (ByteArray × (ByteArray × (Int × (List ByteArray)))))) × (List (Int × (ByteArray × (ByteArray × (Int × (List ByteArray))))))))) (fun s1 =>
    (cond (ilt s1.1 (n2i (xlen s1.2.1)))
      (chk (okIx s1.1 (xlen s1.2.1))
      (Option.bind (F_s_l25Own (xget s1.2.1 (i2n s1.1) (0, ((ByteArray.mk #[]), ((ByteArray.mk #[]), (0, ([] : (List ByteArray)))))))) fun r3 =>
        (chk (okRoom (xlen s1.2.2) (xlen ((r3.1, (r3.2.1, (r3.2.2.1, r3.2.2.2))) :: ([] : (List (Int × (ByteArray × (ByteArray × (Int × (List ByteArray))))))))) 72)
        (some (.inl ((iadd .i64 s1.1 1), (s1.2.1, (xapp s1.2.2 ((r3.1, (r3.2.1, (r3.2.2.1, r3.2.2.2))) :: ([] : (List (Int × (ByteArray × (ByteArray × (Int × (List ByteArray))))))))))))))))
      (some (.inr s1.2.2))))
    (0, (x, ([] : (List (Int × (ByteArray × (ByteArray × (Int × (List ByteArray))))))))))

noncomputable def F_s_RemoveEntry (x : ((List (Int × (ByteArray × (ByteArray × (Int × (List ByteArray)))))) × Int)) : Option ((List (Int × (ByteArray × (ByteArray × (Int × (List ByteArray)))))) × Int) :=
  (Option.bind (F_s_l25Ask x) fun r1 =>
    (cond (ine r1.2 0)
      (some (([] : (List (Int × (ByteArray × (ByteArray × (Int × (List ByteArray))))))), r1.2))
      (chk (okTo r1.1 (xlen x.1))
      (chk (okRoom (xlen ([] : (List (Int × (ByteArray × (ByteArray × (Int × (List ByteArray)))))))) (xlen (xsub x.1 0 (i2n r1.1))) 72)
      (chk (okTo (iadd .i64 r1.1 1) (xlen x.1))
      (chk (okRoom (xlen (xapp ([] : (List (Int × (ByteArray × (ByteArray × (Int × (List ByteArray))))))) (xsub x.1 0 (i2n r1.1)))) (xlen (xsub x.1 (i2n (iadd .i64 r1.1 1)) (xlen x.1))) 72)
      (Option.bind (F_s_l25Copy (xapp (xapp ([] : (List (Int × (ByteArray × (ByteArray × (Int × (List ByteArray))))))) (xsub x.1 0 (i2n r1.1))) (xsub x.1 (i2n (iadd .i64 r1.1 1)) (xlen x.1)))) fun r3 =>
        (some (r3, 0)))))))))

noncomputable def F_i_copyEntries (x : (List (Int × (ByteArray × (ByteArray × (Int × (List ByteArray))))))) : Option (List (Int × (ByteArray × (ByteArray × (Int × (List ByteArray)))))) :=
  (iter (σ := (Int × (Int × ((List (Int × (ByteArray × (ByteArray × (Int × (List ByteArray)))))) × (List (Int × (ByteArray × (ByteArray × (Int × (List ByteArray)))))))))) (fun s1 =>
    (cond (ilt s1.2.1 s1.1)
      (chk (okIx s1.2.1 (xlen s1.2.2.2))
      (Option.bind (F_i_Entry_copied ((xget s1.2.2.2 (i2n s1.2.1) (0, ((ByteArray.mk #[]), ((ByteArray.mk #[]), (0, ([] : (List ByteArray))))))).1, ((xget s1.2.2.2 (i2n s1.2.1) (0, ((ByteArray.mk #[]), ((ByteArray.mk #[]), (0, ([] : (List ByteArray))))))).2.1, ((xget s1.2.2.2 (i2n s1.2.1) (0, ((ByteArray.mk #[]), ((ByteArray.mk #[]), (0, ([] : (List ByteArray))))))).2.2.1, (xget s1.2.2.2 (i2n s1.2.1) (0, ((ByteArray.mk #[]), ((ByteArray.mk #[]), (0, ([] : (List ByteArray))))))).2.2.2)))) fun r3 =>
        (chk (okRoom (xlen s1.2.2.1) (xlen ((r3.1, (r3.2.1, (r3.2.2.1, r3.2.2.2))) :: ([] : (List (Int × (ByteArray × (ByteArray × (Int × (List ByteArray))))))))) 72)
        (some (.inl (s1.1, ((iadd .i64 s1.2.1 1), ((xapp s1.2.2.1 ((r3.1, (r3.2.1, (r3.2.2.1, r3.2.2.2))) :: ([] : (List (Int × (ByteArray × (ByteArray × (Int × (List ByteArray))))))))), s1.2.2.2))))))))
      (some (.inr s1.2.2.1))))
    ((n2i (xlen x)), (0, (([] : (List (Int × (ByteArray × (ByteArray × (Int × (List ByteArray))))))), x))))

noncomputable def F_i_RemoveEntry (x : ((List (Int × (ByteArray × (ByteArray × (Int × (List ByteArray)))))) × Int)) : Option ((List (Int × (ByteArray × (ByteArray × (Int × (List ByteArray)))))) × Int) :=
  (Option.bind (F_i_ValidEntries x.1) fun r1 =>
    (cond (bnot r1)
      (some (([] : (List (Int × (ByteArray × (ByteArray × (Int × (List ByteArray))))))), 1))
      (Option.bind (F_i_entryAt x) fun r3 =>
        (cond (ilt r3 0)
          (some (([] : (List (Int × (ByteArray × (ByteArray × (Int × (List ByteArray))))))), 3))
          (chk (okTo r3 (xlen x.1))
          (Option.bind (F_i_copyEntries (xsub x.1 0 (i2n r3))) fun r5 =>
            (chk (okTo (iadd .i64 r3 1) (xlen x.1))
            (Option.bind (F_i_copyEntries (xsub x.1 (i2n (iadd .i64 r3 1)) (xlen x.1))) fun r6 =>
              (chk (okRoom (xlen r5) (xlen r6) 72)
              (some ((xapp r5 r6), 0)))))))))))

noncomputable def F_l_heldEntryS (x : ((List (Int × (ByteArray × (ByteArray × (Int × (List ByteArray)))))) × Int)) : Option Int :=
  (iter (σ := (Int × (Int × (List (Int × (ByteArray × (ByteArray × (Int × (List ByteArray))))))))) (fun s1 =>
    (cond (ilt s1.2.1 (n2i (xlen s1.2.2)))
      (chk (okIx s1.2.1 (xlen s1.2.2))
      (cond (ine (xget s1.2.2 (i2n s1.2.1) (0, ((ByteArray.mk #[]), ((ByteArray.mk #[]), (0, ([] : (List ByteArray))))))).1 s1.1)
        (some (.inr (-1)))
        (chk (okIx s1.2.1 (xlen s1.2.2))
        (Option.bind (F_l_markText (iadd .i64 s1.1 1)) fun r4 =>
          (cond (sne (xget s1.2.2 (i2n s1.2.1) (0, ((ByteArray.mk #[]), ((ByteArray.mk #[]), (0, ([] : (List ByteArray))))))).2.1 r4.1)
            (some (.inr (-1)))
            (chk (okIx s1.2.1 (xlen s1.2.2))
            (Option.bind (F_l_markText (iadd .i64 (iadd .i64 s1.1 1) 1)) fun r6 =>
              (cond (sne (xget s1.2.2 (i2n s1.2.1) (0, ((ByteArray.mk #[]), ((ByteArray.mk #[]), (0, ([] : (List ByteArray))))))).2.2.1 r6.1)
                (some (.inr (-1)))
                (chk (okIx s1.2.1 (xlen s1.2.2))
                (cond (ine (xget s1.2.2 (i2n s1.2.1) (0, ((ByteArray.mk #[]), ((ByteArray.mk #[]), (0, ([] : (List ByteArray))))))).2.2.2.1 (iadd .i64 (iadd .i64 (iadd .i64 s1.1 1) 1) 1))
                  (some (.inr (-1)))
                  (chk (okIx s1.2.1 (xlen s1.2.2))
                  (Option.bind (F_l_heldStringS ((xget s1.2.2 (i2n s1.2.1) (0, ((ByteArray.mk #[]), ((ByteArray.mk #[]), (0, ([] : (List ByteArray))))))).2.2.2.2, (iadd .i64 (iadd .i64 (iadd .i64 (iadd .i64 s1.1 1) 1) 1) 1))) fun r9 =>
                    (cond (ilt r9 0)
                      (some (.inr (-1)))
                      (some (.inl (r9, ((iadd .i64 s1.2.1 1), s1.2.2)))))))))))))))))
      (some (.inr s1.1))))
    (x.2, (0, x.1)))

noncomputable def F_l_FnExactRemoveEntry (x : ((List (Int × (ByteArray × (ByteArray × (Int × (List ByteArray)))))) × Int)) : Option Bool :=
  (Option.bind (F_l_szEntryS (x.1, 1048576)) fun r1 =>
    (cond (ilt r1 0)
      (some true)
      (Option.bind (F_l_toEntryS x.1) fun r3 =>
        (Option.bind (F_s_RemoveEntry (r3, x.2)) fun r4 =>
          (Option.bind (F_l_toEntryS x.1) fun r5 =>
            (Option.bind (F_i_RemoveEntry (r5, x.2)) fun r6 =>
              (Option.bind (F_l_eqEntryS (r6.1, r4.1)) fun r7 =>
                (cond (bnot r7)
                  (some false)
                  (cond (ine r6.2 r4.2)
                    (some false)
                    (Option.bind (F_l_toEntryS x.1) fun r10 =>
                      (Option.bind (F_l_eqEntryS (r5, r10)) fun r11 =>
                        (cond (bnot r11)
                          (some false)
                          (Option.bind (F_l_markEntryS (r5, 1)) fun r13 =>
                            (cond (ilt r13.1 0)
                              (some false)
                              (Option.bind (F_l_eqEntryS (r6.1, r4.1)) fun r15 =>
                                (cond (bnot r15)
                                  (some false)
                                  (cond (ine r6.2 r4.2)
                                    (some false)
                                    (Option.bind (F_l_markEntryS (r6.1, 1)) fun r18 =>
                                      (Option.bind (F_l_heldEntryS (r18.2, 1)) fun r19 =>
                                        (cond (ilt r19 0)
                                          (some false)
                                          (cond (ine r19 r18.1)
                                            (some false)
                                            (Option.bind (F_l_toEntryS x.1) fun r22 =>
                                              (Option.bind (F_i_RemoveEntry (r22, x.2)) fun r23 =>
                                                (Option.bind (F_l_eqEntryS (r23.1, r4.1)) fun r24 =>
                                                  (cond (bnot r24)
                                                    (some false)
                                                    (cond (ine r23.2 r4.2)
                                                      (some false)
                                                      (Option.bind (F_l_heldEntryS (r18.2, 1)) fun r27 =>
                                                        (cond (ilt r27 0)
                                                          (some false)
                                                          (cond (ine r27 r18.1)
                                                            (some false)
                                                            (some true))))))))))))))))))))))))))))))

end Go.Prg
