/- What the functions of the program compute: printed by a program off the engine. Conditions: none. -/
import Derived.Test.YtegnnfaehhgbiaaEng25
namespace Go.Prg
open Go.Eng
set_option linter.all false

noncomputable def F_l_szInt64S (x : ((List Int) × Int)) : Option Int :=
  (cond (ilt (isub .i64 x.2 (n2i (xlen x.1))) 0)
    (some (-1))
    (some (isub .i64 x.2 (n2i (xlen x.1)))))

noncomputable def F_l_szRegister (x : ((Int × (List Int)) × Int)) : Option Int :=
  (Option.bind (F_l_szInt64S (x.1.2, x.2)) fun r1 =>
    (cond (ilt r1 0)
      (some (-1))
      (some r1)))

noncomputable def F_l_szMachine (x : (((Int × (List Int)) × ((Int × (List Int)) × ((Int × (List Int)) × Int))) × Int)) : Option Int :=
  (Option.bind (F_l_szRegister (x.1.1, x.2)) fun r1 =>
    (cond (ilt r1 0)
      (some (-1))
      (Option.bind (F_l_szRegister (x.1.2.1, r1)) fun r3 =>
        (cond (ilt r3 0)
          (some (-1))
          (Option.bind (F_l_szRegister (x.1.2.2.1, r3)) fun r5 =>
            (cond (ilt r5 0)
              (some (-1))
              (some r5)))))))

noncomputable def F_s_l00Min (x : (Int × Int)) : Option Int :=
  (cond (ilt x.1 x.2)
    (some x.1)
    (some x.2))

noncomputable def F_s_l10Places (x : ((Int × (List Int)) × ((Int × (List Int)) × ((Int × (List Int)) × Int)))) : Option Int :=
  (Option.bind (F_s_l00Min ((n2i (xlen x.2.2.1.2)), (iadd .i64 (isub .i64 (n2i (xlen x.2.1.2)) (n2i (xlen x.1.2))) 1))) fun r1 =>
    (some r1))

noncomputable def F_s_l00In (x : (Int × (Int × Int))) : Option Bool :=
  (cond (ige x.1 x.2.1)
    (some (ile x.1 x.2.2))
    (some false))

noncomputable def F_s_l10Power (x : (Int × Int)) : Option Int :=
  (iter (σ := (Int × (Int × Int))) (fun s1 =>
    (cond (igt s1.2.1 0)
      (Option.bind (F_s_l00Min (1000000000002, (imul .i64 s1.2.2 s1.1))) fun r3 =>
        (some (.inl (s1.1, ((isub .i64 s1.2.1 1), r3)))))
      (some (.inr s1.2.2))))
    (x.1, (x.2, 1)))

noncomputable def F_s_l10Full (x : (Int × Int)) : Option Bool :=
  (Option.bind (F_s_l10Power x) fun r1 =>
    (some (ile (isub .i64 r1 1) 1000000000000)))

noncomputable def F_s_l02Base (x : Int) : Option Bool :=
  (Option.bind (F_s_l00In (x, (2, 16))) fun r1 =>
    (some r1))

noncomputable def F_s_l02Value (x : (Int × (List Int))) : Option Int :=
  (iter (σ := (Int × (Int × (Int × (List Int))))) (fun s1 =>
    (cond (ige s1.2.2.1 0)
      (chk (okIx s1.2.2.1 (xlen s1.2.2.2))
      (Option.bind (F_s_l00Min (1000000000001, (iadd .i64 (imul .i64 s1.2.1 s1.1) (xget s1.2.2.2 (i2n s1.2.2.1) 0)))) fun r3 =>
        (some (.inl (s1.1, (r3, ((isub .i64 s1.2.2.1 1), s1.2.2.2)))))))
      (some (.inr s1.2.1))))
    (x.1, (0, ((isub .i64 (n2i (xlen x.2)) 1), x.2))))

noncomputable def F_s_l02Digits (x : (Int × (List Int))) : Option Bool :=
  (iter (σ := (Int × (Int × (List Int)))) (fun s1 =>
    (cond (ilt s1.2.1 (n2i (xlen s1.2.2)))
      (chk (okIx s1.2.1 (xlen s1.2.2))
      (Option.bind (F_s_l00In ((xget s1.2.2 (i2n s1.2.1) 0), (0, (isub .i64 s1.1 1)))) fun r3 =>
        (cond (bnot r3)
          (some (.inr false))
          (some (.inl (s1.1, ((iadd .i64 s1.2.1 1), s1.2.2)))))))
      (Option.map Sum.inr
        (Option.bind (F_s_l00In ((n2i (xlen s1.2.2)), (1, 16))) fun r3 =>
        (some r3)))))
    (x.1, (0, x.2)))

noncomputable def F_s_l02Ok (x : (Int × (List Int))) : Option Bool :=
  (Option.bind (F_s_l02Base x.1) fun r1 =>
    (cond r1
      (Option.bind (F_s_l02Digits x) fun r3 =>
        (cond r3
          (Option.bind (F_s_l02Value x) fun r5 =>
            (some (ile r5 1000000000000)))
          (some false)))
      (some false)))

noncomputable def F_s_l10Ok (x : ((Int × (List Int)) × ((Int × (List Int)) × ((Int × (List Int)) × Int)))) : Option Bool :=
  (Option.bind (F_s_l02Ok x.1) fun r1 =>
    (cond (bnot r1)
      (some false)
      (Option.bind (F_s_l02Ok x.2.1) fun r3 =>
        (cond (bnot r3)
          (some false)
          (Option.bind (F_s_l02Ok x.2.2.1) fun r5 =>
            (cond (bnot r5)
              (some false)
              (cond (ine x.1.1 x.2.1.1)
                (some false)
                (cond (ine x.1.1 x.2.2.1.1)
                  (some false)
                  (Option.bind (F_s_l10Full (x.1.1, (n2i (xlen x.2.1.2)))) fun r9 =>
                    (cond (bnot r9)
                      (some false)
                      (Option.bind (F_s_l10Full (x.1.1, (n2i (xlen x.2.2.1.2)))) fun r11 =>
                        (cond (bnot r11)
                          (some false)
                          (cond (ile (n2i (xlen x.1.2)) (n2i (xlen x.2.1.2)))
                            (Option.bind (F_s_l10Places x) fun r14 =>
                              (Option.bind (F_s_l00In (x.2.2.2, (0, (isub .i64 r14 1)))) fun r15 =>
                                (some r15)))
                            (some false))))))))))))))

noncomputable def F_s_PlacesOf (x : ((Int × (List Int)) × ((Int × (List Int)) × ((Int × (List Int)) × Int)))) : Option (Int × Int) :=
  (Option.bind (F_s_l10Ok (x.1, (x.2.1, (x.2.2.1, x.2.2.2)))) fun r1 =>
    (cond (bnot r1)
      (some (0, 1))
      (Option.bind (F_s_l10Places (x.1, (x.2.1, (x.2.2.1, x.2.2.2)))) fun r3 =>
        (some (r3, 0)))))

noncomputable def F_l_toInt64S (x : (List Int)) : Option (List Int) :=
  (chk (ieq (n2i (xlen x)) (n2i (xlen x)))
  (chk (okMake (n2i (xlen x)) 8)
  (iter (σ := (Int × ((List Int) × (List Int)))) (fun s1 =>
    (cond (ilt s1.1 (n2i (xlen s1.2.1)))
      (chk (okIx s1.1 (xlen s1.2.1))
      (chk (okIx s1.1 (xlen s1.2.2))
      (some (.inl ((iadd .i64 s1.1 1), (s1.2.1, (xset s1.2.2 (i2n s1.1) (xget s1.2.1 (i2n s1.1) 0))))))))
      (some (.inr s1.2.2))))
    (0, (x, (xrep (i2n (n2i (xlen x))) 0))))))

noncomputable def F_l_toRegister (x : (Int × (List Int))) : Option (Int × (List Int)) :=
  (Option.bind (F_l_toInt64S x.2) fun r1 =>
    (some (x.1, r1)))

noncomputable def F_l_toMachine (x : ((Int × (List Int)) × ((Int × (List Int)) × ((Int × (List Int)) × Int)))) : Option ((Int × (List Int)) × ((Int × (List Int)) × ((Int × (List Int)) × Int))) :=
  (Option.bind (F_l_toRegister x.1) fun r1 =>
    (Option.bind (F_l_toRegister x.2.1) fun r2 =>
      (Option.bind (F_l_toRegister x.2.2.1) fun r3 =>
        (some (r1, (r2, (r3, x.2.2.2)))))))

noncomputable def F_i_Register_width (x : (Int × (List Int))) : Option Int :=
  (some (n2i (xlen x.2)))

noncomputable def F_i_Machine_places (x : ((Int × (List Int)) × ((Int × (List Int)) × ((Int × (List Int)) × Int)))) : Option Int :=
  (Option.bind (F_i_Register_width x.2.1) fun r1 =>
    (Option.bind (F_i_Register_width x.1) fun r2 =>
      (Option.bind (F_i_Register_width x.2.2.1) fun r3 =>
        (some (imin (iadd .i64 (isub .i64 r1 r2) 1) r3)))))

noncomputable def F_i_between (x : (Int × (Int × Int))) : Option Bool :=
  (cond (ige x.1 x.2.1)
    (some (ile x.1 x.2.2))
    (some false))

noncomputable def F_i_isBase (x : Int) : Option Bool :=
  (Option.bind (F_i_between (x, (2, 16))) fun r1 =>
    (some r1))

noncomputable def F_i_isRegisterWidth (x : Int) : Option Bool :=
  (Option.bind (F_i_between (x, (1, 16))) fun r1 =>
    (some r1))

noncomputable def F_i_Register_value (x : (Int × (List Int))) : Option Int :=
  (iter (σ := (Int × (Int × (Int × (List Int))))) (fun s1 =>
    (cond (ige s1.2.1 0)
      (chk (okIx s1.2.1 (xlen s1.2.2.2))
      (cond (igt (iadd .i64 (imul .i64 s1.1 s1.2.2.1) (xget s1.2.2.2 (i2n s1.2.1) 0)) 1000000000000)
        (some (.inr 1000000000001))
        (some (.inl ((iadd .i64 (imul .i64 s1.1 s1.2.2.1) (xget s1.2.2.2 (i2n s1.2.1) 0)), ((isub .i64 s1.2.1 1), s1.2.2))))))
      (some (.inr s1.1))))
    (0, ((isub .i64 (n2i (xlen x.2)) 1), x)))

noncomputable def F_i_ValidRegister (x : (Int × (List Int))) : Option Bool :=
  (Option.bind (F_i_isBase x.1) fun r1 =>
    (cond (bnot r1)
      (some false)
      (Option.bind (F_i_isRegisterWidth (n2i (xlen x.2))) fun r3 =>
        (cond (bnot r3)
          (some false)
          (iter (σ := (Int × (Int × (Int × (List Int))))) (fun s5 =>
            (cond (ilt s5.2.1 s5.1)
              (chk (okIx s5.2.1 (xlen s5.2.2.2))
              (Option.bind (F_i_between ((xget s5.2.2.2 (i2n s5.2.1) 0), (0, (isub .i64 s5.2.2.1 1)))) fun r7 =>
                (cond (bnot r7)
                  (some (.inr false))
                  (some (.inl (s5.1, ((iadd .i64 s5.2.1 1), s5.2.2)))))))
              (Option.map Sum.inr
                (Option.bind (F_i_Register_value s5.2.2) fun r7 =>
                (some (ile r7 1000000000000))))))
            ((n2i (xlen x.2)), (0, x)))))))

noncomputable def F_i_power (x : (Int × Int)) : Option Int :=
  (iter (σ := (Int × (Int × (Int × Int)))) (fun s1 =>
    (cond (ilt s1.2.2.2 s1.2.2.1)
      (cond (igt (isub .i64 (imul .i64 s1.2.1 s1.1) 1) 1000000000000)
        (some (.inr 0))
        (some (.inl (s1.1, ((imul .i64 s1.2.1 s1.1), (s1.2.2.1, (iadd .i64 s1.2.2.2 1)))))))
      (some (.inr s1.2.1))))
    (x.1, (1, (x.2, 0))))

noncomputable def F_i_Register_values (x : (Int × (List Int))) : Option Int :=
  (Option.bind (F_i_Register_width x) fun r1 =>
    (Option.bind (F_i_power (x.1, r1)) fun r2 =>
      (some r2)))

noncomputable def F_i_ValidMachine (x : ((Int × (List Int)) × ((Int × (List Int)) × ((Int × (List Int)) × Int)))) : Option Bool :=
  (Option.bind (F_i_ValidRegister x.1) fun r1 =>
    (cond (bnot r1)
      (some false)
      (Option.bind (F_i_ValidRegister x.2.1) fun r3 =>
        (cond (bnot r3)
          (some false)
          (Option.bind (F_i_ValidRegister x.2.2.1) fun r5 =>
            (cond (bnot r5)
              (some false)
              (cond (ine x.1.1 x.2.1.1)
                (some false)
                (cond (ine x.2.2.1.1 x.2.1.1)
                  (some false)
                  (Option.bind (F_i_Register_values x.2.1) fun r9 =>
                    (cond (ieq r9 0)
                      (some false)
                      (Option.bind (F_i_Register_values x.2.2.1) fun r11 =>
                        (cond (ieq r11 0)
                          (some false)
                          (Option.bind (F_i_Register_width x.1) fun r13 =>
                            (Option.bind (F_i_Register_width x.2.1) fun r14 =>
                              (cond (ile r13 r14)
                                (Option.bind (F_i_Machine_places (x.1, (x.2.1, (x.2.2.1, x.2.2.2)))) fun r16 =>
                                  (Option.bind (F_i_between (x.2.2.2, (0, (isub .i64 r16 1)))) fun r17 =>
                                    (some r17)))
                                (some false))))))))))))))))

noncomputable def F_i_PlacesOf (x : ((Int × (List Int)) × ((Int × (List Int)) × ((Int × (List Int)) × Int)))) : Option (Int × Int) :=
  (Option.bind (F_i_ValidMachine (x.1, (x.2.1, (x.2.2.1, x.2.2.2)))) fun r1 =>
    (cond (bnot r1)
      (some (0, 1))
      (Option.bind (F_i_Machine_places (x.1, (x.2.1, (x.2.2.1, x.2.2.2)))) fun r3 =>
        (some (r3, 0)))))

noncomputable def F_l_eqInt64S (x : ((List Int) × (List Int))) : Option Bool :=
  (cond (ine (n2i (xlen x.1)) (n2i (xlen x.2)))
    (some false)
    (iter (σ := (Int × ((List Int) × (List Int)))) (fun s2 =>
      (cond (ilt s2.1 (n2i (xlen s2.2.1)))
        (chk (okIx s2.1 (xlen s2.2.1))
        (chk (okIx s2.1 (xlen s2.2.2))
        (cond (ine (xget s2.2.1 (i2n s2.1) 0) (xget s2.2.2 (i2n s2.1) 0))
          (some (.inr false))
          (some (.inl ((iadd .i64 s2.1 1), s2.2))))))
        (some (.inr true))))
      (0, x)))

noncomputable def F_l_eqRegister (x : ((Int × (List Int)) × (Int × (List Int)))) : Option Bool :=
  (cond (ine x.1.1 x.2.1)
    (some false)
    (Option.bind (F_l_eqInt64S (x.1.2, x.2.2)) fun r2 =>
      (cond (bnot r2)
        (some false)
        (some true))))

noncomputable def F_l_eqMachine (x : (((Int × (List Int)) × ((Int × (List Int)) × ((Int × (List Int)) × Int))) × ((Int × (List Int)) × ((Int × (List Int)) × ((Int × (List Int)) × Int))))) : Option Bool :=
  (Option.bind (F_l_eqRegister (x.1.1, x.2.1)) fun r1 =>
    (cond (bnot r1)
      (some false)
      (Option.bind (F_l_eqRegister (x.1.2.1, x.2.2.1)) fun r3 =>
        (cond (bnot r3)
          (some false)
          (Option.bind (F_l_eqRegister (x.1.2.2.1, x.2.2.2.1)) fun r5 =>
            (cond (bnot r5)
              (some false)
              (cond (ine x.1.2.2.2 x.2.2.2.2)
                (some false)
                (some true))))))))

noncomputable def F_l_FnExactPlacesOf (x : ((Int × (List Int)) × ((Int × (List Int)) × ((Int × (List Int)) × Int)))) : Option Bool :=
  (Option.bind (F_l_szMachine ((x.1, (x.2.1, (x.2.2.1, x.2.2.2))), 1048576)) fun r1 =>
    (cond (ilt r1 0)
      (some true)
      (Option.bind (F_l_toMachine (x.1, (x.2.1, (x.2.2.1, x.2.2.2)))) fun r3 =>
        (Option.bind (F_s_PlacesOf (r3.1, (r3.2.1, (r3.2.2.1, r3.2.2.2)))) fun r4 =>
          (Option.bind (F_l_toMachine (x.1, (x.2.1, (x.2.2.1, x.2.2.2)))) fun r5 =>
            (Option.bind (F_i_PlacesOf (r5.1, (r5.2.1, (r5.2.2.1, r5.2.2.2)))) fun r6 =>
              (cond (ine r6.1 r4.1)
                (some false)
                (cond (ine r6.2 r4.2)
                  (some false)
                  (Option.bind (F_l_toMachine (x.1, (x.2.1, (x.2.2.1, x.2.2.2)))) fun r9 =>
                    (Option.bind (F_l_eqMachine ((r5.1, (r5.2.1, (r5.2.2.1, r5.2.2.2))), (r9.1, (r9.2.1, (r9.2.2.1, r9.2.2.2))))) fun r10 =>
                      (cond (bnot r10)
                        (some false)
                        (some true))))))))))))

noncomputable def F_s_l07Size (x : Int) : Option Bool :=
  (Option.bind (F_s_l00In (x, (1, 16))) fun r1 =>
    (some r1))

noncomputable def F_s_l02New (x : (Int × (Int × Int))) : Option ((Int × (List Int)) × Int) :=
  (iter (σ := (Int × (Int × (Int × (Int × (Int × ((List Int) × (Int × (List Int))))))))) (fun s1 =>
    (cond (ilt s1.2.2.2.1 s1.2.1)
      (chk (okDiv s1.1)
      (chk (okRoom (xlen s1.2.2.2.2.2.2.2) (xlen ((irem s1.2.2.1 s1.1) :: ([] : (List Int)))) 8)
      (chk (okDiv s1.1)
      (some (.inl (s1.1, (s1.2.1, ((iquo .i64 s1.2.2.1 s1.1), ((iadd .i64 s1.2.2.2.1 1), (s1.2.2.2.2.1, (s1.2.2.2.2.2.1, (s1.2.2.2.2.2.2.1, (xapp s1.2.2.2.2.2.2.2 ((irem s1.2.2.1 s1.1) :: ([] : (List Int))))))))))))))))
      (some (.inr (s1.2.2.2.2.2.2, s1.2.2.1)))))
    (x.1, (x.2.1, (x.2.2, (0, (0, (([] : (List Int)), (x.1, ([] : (List Int))))))))))

noncomputable def F_s_l10New (x : (Int × (Int × (Int × Int)))) : Option ((Int × (List Int)) × ((Int × (List Int)) × ((Int × (List Int)) × Int))) :=
  (Option.bind (F_s_l02New (x.1, (x.2.1, 0))) fun r1 =>
    (Option.bind (F_s_l02New (x.1, (x.2.2.1, 0))) fun r2 =>
      (Option.bind (F_s_l02New (x.1, (x.2.2.2, 0))) fun r3 =>
        (some (r1.1, (r2.1, (r3.1, 0)))))))

noncomputable def F_s_NewMachine (x : (Int × (Int × (Int × Int)))) : Option (((Int × (List Int)) × ((Int × (List Int)) × ((Int × (List Int)) × Int))) × Int) :=
  (Option.bind (F_s_l02Base x.1) fun r1 =>
    (cond (bnot r1)
      (some (((0, ([] : (List Int))), ((0, ([] : (List Int))), ((0, ([] : (List Int))), 0))), 2))
      (Option.bind (F_s_l07Size x.2.1) fun r3 =>
        (cond (bnot r3)
          (some (((0, ([] : (List Int))), ((0, ([] : (List Int))), ((0, ([] : (List Int))), 0))), 2))
          (Option.bind (F_s_l07Size x.2.2.1) fun r5 =>
            (cond (bnot r5)
              (some (((0, ([] : (List Int))), ((0, ([] : (List Int))), ((0, ([] : (List Int))), 0))), 2))
              (Option.bind (F_s_l07Size x.2.2.2) fun r7 =>
                (cond (bnot r7)
                  (some (((0, ([] : (List Int))), ((0, ([] : (List Int))), ((0, ([] : (List Int))), 0))), 2))
                  (Option.bind (F_s_l10New (x.1, (x.2.1, x.2.2))) fun r9 =>
                    (Option.bind (F_s_l10Ok (r9.1, (r9.2.1, (r9.2.2.1, r9.2.2.2)))) fun r10 =>
                      (cond (bnot r10)
                        (some (((0, ([] : (List Int))), ((0, ([] : (List Int))), ((0, ([] : (List Int))), 0))), 2))
                        (some ((r9.1, (r9.2.1, (r9.2.2.1, r9.2.2.2))), 0)))))))))))))

noncomputable def F_i_registerOf (x : (Int × (Int × Int))) : Option ((Int × (List Int)) × Bool) :=
  (iter (σ := (Int × (Int × (Int × (Int × (Int × ((List Int) × (Int × (List Int))))))))) (fun s1 =>
    (cond (ilt s1.2.2.2.1 s1.2.2.1)
      (chk (okDiv s1.1)
      (chk (okRoom (xlen s1.2.2.2.2.2.2.2) (xlen ((irem s1.2.1 s1.1) :: ([] : (List Int)))) 8)
      (chk (okDiv s1.1)
      (some (.inl (s1.1, ((iquo .i64 s1.2.1 s1.1), (s1.2.2.1, ((iadd .i64 s1.2.2.2.1 1), (s1.2.2.2.2.1, (s1.2.2.2.2.2.1, (s1.2.2.2.2.2.2.1, (xapp s1.2.2.2.2.2.2.2 ((irem s1.2.1 s1.1) :: ([] : (List Int))))))))))))))))
      (some (.inr (s1.2.2.2.2.2.2, (ieq s1.2.1 0))))))
    (x.1, (x.2.2, (x.2.1, (0, (0, (([] : (List Int)), (x.1, ([] : (List Int))))))))))

noncomputable def F_i_NewMachine (x : (Int × (Int × (Int × Int)))) : Option (((Int × (List Int)) × ((Int × (List Int)) × ((Int × (List Int)) × Int))) × Int) :=
  (Option.bind (F_i_isBase x.1) fun r1 =>
    (cond (bnot r1)
      (some (((0, ([] : (List Int))), ((0, ([] : (List Int))), ((0, ([] : (List Int))), 0))), 2))
      (Option.bind (F_i_isRegisterWidth x.2.1) fun r3 =>
        (cond (bnot r3)
          (some (((0, ([] : (List Int))), ((0, ([] : (List Int))), ((0, ([] : (List Int))), 0))), 2))
          (Option.bind (F_i_isRegisterWidth x.2.2.1) fun r5 =>
            (cond (bnot r5)
              (some (((0, ([] : (List Int))), ((0, ([] : (List Int))), ((0, ([] : (List Int))), 0))), 2))
              (Option.bind (F_i_isRegisterWidth x.2.2.2) fun r7 =>
                (cond (bnot r7)
                  (some (((0, ([] : (List Int))), ((0, ([] : (List Int))), ((0, ([] : (List Int))), 0))), 2))
                  (Option.bind (F_i_registerOf (x.1, (x.2.1, 0))) fun r9 =>
                    (Option.bind (F_i_registerOf (x.1, (x.2.2.1, 0))) fun r10 =>
                      (Option.bind (F_i_registerOf (x.1, (x.2.2.2, 0))) fun r11 =>
                        (Option.bind (F_i_ValidMachine (r9.1, (r10.1, (r11.1, 0)))) fun r12 =>
                          (cond (bnot r12)
                            (some (((0, ([] : (List Int))), ((0, ([] : (List Int))), ((0, ([] : (List Int))), 0))), 2))
                            (some ((r9.1, (r10.1, (r11.1, 0))), 0)))))))))))))))

noncomputable def F_l_markInt64S (x : ((List Int) × Int)) : Option (Int × (List Int)) :=
  (iter (σ := (Int × (Int × (List Int)))) (fun s1 =>
    (cond (ilt s1.2.1 (n2i (xlen s1.2.2)))
      (chk (okIx s1.2.1 (xlen s1.2.2))
      (some (.inl ((iadd .i64 s1.1 1), ((iadd .i64 s1.2.1 1), (xset s1.2.2 (i2n s1.2.1) s1.1))))))
      (some (.inr (s1.1, s1.2.2)))))
    (x.2, (0, x.1)))

noncomputable def F_l_markRegister (x : ((Int × (List Int)) × Int)) : Option (Int × (Int × (List Int))) :=
  (Option.bind (F_l_markInt64S (x.1.2, x.2)) fun r1 =>
    (some (r1.1, (x.1.1, r1.2))))

noncomputable def F_l_markMachine (x : (((Int × (List Int)) × ((Int × (List Int)) × ((Int × (List Int)) × Int))) × Int)) : Option (Int × ((Int × (List Int)) × ((Int × (List Int)) × ((Int × (List Int)) × Int)))) :=
  (Option.bind (F_l_markRegister (x.1.1, x.2)) fun r1 =>
    (Option.bind (F_l_markRegister (x.1.2.1, r1.1)) fun r2 =>
      (Option.bind (F_l_markRegister (x.1.2.2.1, r2.1)) fun r3 =>
        (some (r3.1, ((x.1.1.1, r1.2.2), ((x.1.2.1.1, r2.2.2), ((x.1.2.2.1.1, r3.2.2), x.1.2.2.2))))))))

noncomputable def F_l_heldInt64S (x : ((List Int) × Int)) : Option Int :=
  (iter (σ := (Int × (Int × (List Int)))) (fun s1 =>
    (cond (ilt s1.2.1 (n2i (xlen s1.2.2)))
      (chk (okIx s1.2.1 (xlen s1.2.2))
      (cond (ine (xget s1.2.2 (i2n s1.2.1) 0) s1.1)
        (some (.inr (-1)))
        (some (.inl ((iadd .i64 s1.1 1), ((iadd .i64 s1.2.1 1), s1.2.2))))))
      (some (.inr s1.1))))
    (x.2, (0, x.1)))

noncomputable def F_l_heldRegister (x : ((Int × (List Int)) × Int)) : Option Int :=
  (Option.bind (F_l_heldInt64S (x.1.2, x.2)) fun r1 =>
    (cond (ilt r1 0)
      (some (-1))
      (some r1)))

noncomputable def F_l_heldMachine (x : (((Int × (List Int)) × ((Int × (List Int)) × ((Int × (List Int)) × Int))) × Int)) : Option Int :=
  (Option.bind (F_l_heldRegister (x.1.1, x.2)) fun r1 =>
    (cond (ilt r1 0)
      (some (-1))
      (Option.bind (F_l_heldRegister (x.1.2.1, r1)) fun r3 =>
        (cond (ilt r3 0)
          (some (-1))
          (Option.bind (F_l_heldRegister (x.1.2.2.1, r3)) fun r5 =>
            (cond (ilt r5 0)
              (some (-1))
              (some r5)))))))

noncomputable def F_l_FnExactNewMachine (x : (Int × (Int × (Int × Int)))) : Option Bool :=
  (Option.bind (F_s_NewMachine (x.1, (x.2.1, x.2.2))) fun r1 =>
    (Option.bind (F_i_NewMachine (x.1, (x.2.1, x.2.2))) fun r2 =>
      (Option.bind (F_l_eqMachine ((r2.1.1, (r2.1.2.1, (r2.1.2.2.1, r2.1.2.2.2))), (r1.1.1, (r1.1.2.1, (r1.1.2.2.1, r1.1.2.2.2))))) fun r3 =>
        (cond (bnot r3)
          (some false)
          (cond (ine r2.2 r1.2)
            (some false)
            (Option.bind (F_l_markMachine ((r2.1.1, (r2.1.2.1, (r2.1.2.2.1, r2.1.2.2.2))), 1)) fun r6 =>
              (Option.bind (F_l_heldMachine (((r2.1.1.1, r6.2.1.2), ((r2.1.2.1.1, r6.2.2.1.2), ((r2.1.2.2.1.1, r6.2.2.2.1.2), r2.1.2.2.2))), 1)) fun r7 =>
                (cond (ilt r7 0)
                  (some false)
                  (cond (ine r7 r6.1)
                    (some false)
                    (Option.bind (F_i_NewMachine (x.1, (x.2.1, x.2.2))) fun r10 =>
                      (Option.bind (F_l_eqMachine ((r10.1.1, (r10.1.2.1, (r10.1.2.2.1, r10.1.2.2.2))), (r1.1.1, (r1.1.2.1, (r1.1.2.2.1, r1.1.2.2.2))))) fun r11 =>
                        (cond (bnot r11)
                          (some false)
                          (cond (ine r10.2 r1.2)
                            (some false)
                            (Option.bind (F_l_heldMachine (((r2.1.1.1, r6.2.1.2), ((r2.1.2.1.1, r6.2.2.1.2), ((r2.1.2.2.1.1, r6.2.2.2.1.2), r2.1.2.2.2))), 1)) fun r14 =>
                              (cond (ilt r14 0)
                                (some false)
                                (cond (ine r14 r6.1)
                                  (some false)
                                  (some true)))))))))))))))))

noncomputable def F_s_l09Ok (x : (Int × (List Int))) : Option Bool :=
  (Option.bind (F_s_l02Ok x) fun r1 =>
    (cond r1
      (Option.bind (F_s_l10Full (x.1, (n2i (xlen x.2)))) fun r3 =>
        (some r3))
      (some false)))

noncomputable def F_s_l09Set (x : (Int × (Int × Int))) : Option (Int × (List Int)) :=
  (Option.bind (F_s_l10Power (x.1, x.2.1)) fun r1 =>
    (chk (okDiv r1)
    (chk (okDiv r1)
    (Option.bind (F_s_l02New (x.1, (x.2.1, (irem (iadd .i64 (irem x.2.2 r1) r1) r1)))) fun r2 =>
      (some r2.1)))))

noncomputable def F_s_l09Low (x : (Int × Int)) : Option Int :=
  (Option.bind (F_s_l10Power x) fun r1 =>
    (chk (okDiv 2)
    (some (iquo .i64 r1 2))))

noncomputable def F_s_l09In (x : (Int × (Int × Int))) : Option Bool :=
  (Option.bind (F_s_l09Low (x.1, x.2.1)) fun r1 =>
    (Option.bind (F_s_l10Power (x.1, x.2.1)) fun r2 =>
      (Option.bind (F_s_l00In (x.2.2, ((isub .i64 0 r1), (isub .i64 (isub .i64 r2 1) r1)))) fun r3 =>
        (some r3))))

noncomputable def F_s_l09Number (x : (Int × (List Int))) : Option Int :=
  (Option.bind (F_s_l02Value x) fun r1 =>
    (Option.bind (F_s_l09In (x.1, ((n2i (xlen x.2)), r1))) fun r2 =>
      (cond (bnot r2)
        (Option.bind (F_s_l10Power (x.1, (n2i (xlen x.2)))) fun r4 =>
          (some (isub .i64 r1 r4)))
        (some r1))))

noncomputable def F_s_WidenAccumulator (x : ((Int × (List Int)) × Int)) : Option ((Int × (List Int)) × Int) :=
  (Option.bind (F_s_l09Ok x.1) fun r1 =>
    (cond (bnot r1)
      (some ((0, ([] : (List Int))), 1))
      (Option.bind (F_s_l00In (x.2, ((n2i (xlen x.1.2)), 16))) fun r3 =>
        (cond (bnot r3)
          (some ((0, ([] : (List Int))), 2))
          (Option.bind (F_s_l10Full (x.1.1, x.2)) fun r5 =>
            (cond (bnot r5)
              (some ((0, ([] : (List Int))), 5))
              (Option.bind (F_s_l09Number x.1) fun r7 =>
                (Option.bind (F_s_l09Set (x.1.1, (x.2, r7))) fun r8 =>
                  (some (r8, 0))))))))))

noncomputable def F_i_numbersOf (x : (Int × Int)) : Option Int :=
  (Option.bind (F_i_isBase x.1) fun r1 =>
    (cond (bnot r1)
      (some 0)
      (Option.bind (F_i_isRegisterWidth x.2) fun r3 =>
        (cond (bnot r3)
          (some 0)
          (Option.bind (F_i_power x) fun r5 =>
            (some r5))))))

noncomputable def F_i_Register_size (x : (Int × (List Int))) : Option Int :=
  (Option.bind (F_i_ValidRegister x) fun r1 =>
    (cond (bnot r1)
      (some 0)
      (Option.bind (F_i_Register_width x) fun r3 =>
        (Option.bind (F_i_numbersOf (x.1, r3)) fun r4 =>
          (some r4)))))

noncomputable def F_i_accumulator (x : (Int × (Int × (Int × Int)))) : Option (Int × (List Int)) :=
  (chk (okDiv x.2.2.1)
  (chk (okDiv x.2.2.1)
  (Option.bind (F_i_registerOf (x.1, (x.2.1, (irem (iadd .i64 (irem x.2.2.2 x.2.2.1) x.2.2.1) x.2.2.1)))) fun r1 =>
    (some r1.1))))

noncomputable def F_i_Register_number (x : (Int × (List Int))) : Option Int :=
  (Option.bind (F_i_Register_size x) fun r1 =>
    (Option.bind (F_i_Register_value x) fun r2 =>
      (chk (okDiv 2)
      (cond (ile r2 (isub .i64 (isub .i64 r1 1) (iquo .i64 r1 2)))
        (some r2)
        (some (isub .i64 r2 r1))))))

noncomputable def F_i_WidenAccumulator (x : ((Int × (List Int)) × Int)) : Option ((Int × (List Int)) × Int) :=
  (Option.bind (F_i_Register_size x.1) fun r1 =>
    (cond (ieq r1 0)
      (some ((0, ([] : (List Int))), 1))
      (Option.bind (F_i_Register_width x.1) fun r3 =>
        (Option.bind (F_i_between (x.2, (r3, 16))) fun r4 =>
          (cond (bnot r4)
            (some ((0, ([] : (List Int))), 2))
            (Option.bind (F_i_numbersOf (x.1.1, x.2)) fun r6 =>
              (cond (ieq r6 0)
                (some ((0, ([] : (List Int))), 5))
                (Option.bind (F_i_Register_number x.1) fun r8 =>
                  (Option.bind (F_i_accumulator (x.1.1, (x.2, (r6, r8)))) fun r9 =>
                    (some (r9, 0)))))))))))

noncomputable def F_l_FnExactWidenAccumulator (x : ((Int × (List Int)) × Int)) : Option Bool :=
  (Option.bind (F_l_szRegister (x.1, 1048576)) fun r1 =>
    (cond (ilt r1 0)
      (some true)
      (Option.bind (F_l_toRegister x.1) fun r3 =>
        (Option.bind (F_s_WidenAccumulator (r3, x.2)) fun r4 =>
          (Option.bind (F_l_toRegister x.1) fun r5 =>
            (Option.bind (F_i_WidenAccumulator (r5, x.2)) fun r6 =>
              (Option.bind (F_l_eqRegister (r6.1, r4.1)) fun r7 =>
                (cond (bnot r7)
                  (some false)
                  (cond (ine r6.2 r4.2)
                    (some false)
                    (Option.bind (F_l_toRegister x.1) fun r10 =>
                      (Option.bind (F_l_eqRegister (r5, r10)) fun r11 =>
                        (cond (bnot r11)
                          (some false)
                          (Option.bind (F_l_markRegister (r5, 1)) fun r13 =>
                            (cond (ilt r13.1 0)
                              (some false)
                              (Option.bind (F_l_eqRegister (r6.1, r4.1)) fun r15 =>
                                (cond (bnot r15)
                                  (some false)
                                  (cond (ine r6.2 r4.2)
                                    (some false)
                                    (Option.bind (F_l_markRegister (r6.1, 1)) fun r18 =>
                                      (Option.bind (F_l_heldRegister ((r6.1.1, r18.2.2), 1)) fun r19 =>
                                        (cond (ilt r19 0)
                                          (some false)
                                          (cond (ine r19 r18.1)
                                            (some false)
                                            (Option.bind (F_l_toRegister x.1) fun r22 =>
                                              (Option.bind (F_i_WidenAccumulator (r22, x.2)) fun r23 =>
                                                (Option.bind (F_l_eqRegister (r23.1, r4.1)) fun r24 =>
                                                  (cond (bnot r24)
                                                    (some false)
                                                    (cond (ine r23.2 r4.2)
                                                      (some false)
                                                      (Option.bind (F_l_heldRegister ((r6.1.1, r18.2.2), 1)) fun r27 =>
                                                        (cond (ilt r27 0)
                                                          (some false)
                                                          (cond (ine r27 r18.1)
                                                            (some false)
                                                            (some true))))))))))))))))))))))))))))))

noncomputable def F_s_l09Size (x : (Int × Int)) : Option Bool :=
  (Option.bind (F_s_l02Base x.1) fun r1 =>
    (cond r1
      (Option.bind (F_s_l00In (x.2, (1, 16))) fun r3 =>
        (cond r3
          (Option.bind (F_s_l10Full x) fun r5 =>
            (some r5))
          (some false)))
      (some false)))

noncomputable def F_s_SetAccumulator (x : (Int × (Int × Int))) : Option ((Int × (List Int)) × Int) :=
  (Option.bind (F_s_l09Size (x.1, x.2.1)) fun r1 =>
    (cond (bnot r1)
      (some ((0, ([] : (List Int))), 2))
      (Option.bind (F_s_l09In (x.1, x.2)) fun r3 =>
        (cond (bnot r3)
          (some ((0, ([] : (List Int))), 5))
          (Option.bind (F_s_l09Set (x.1, x.2)) fun r5 =>
            (some (r5, 0)))))))

noncomputable def F_s_NegateAccumulator (x : (Int × (List Int))) : Option ((Int × (List Int)) × Int) :=
  (Option.bind (F_s_l09Ok x) fun r1 =>
    (cond (bnot r1)
      (some ((0, ([] : (List Int))), 1))
      (Option.bind (F_s_l09Number x) fun r3 =>
        (Option.bind (F_s_SetAccumulator (x.1, ((n2i (xlen x.2)), (isub .i64 0 r3)))) fun r4 =>
          (some (r4.1, r4.2))))))

noncomputable def F_i_isNumber (x : (Int × Int)) : Option Bool :=
  (chk (okDiv 2)
  (chk (okDiv 2)
  (Option.bind (F_i_between (x.2, ((isub .i64 0 (iquo .i64 x.1 2)), (isub .i64 (isub .i64 x.1 1) (iquo .i64 x.1 2))))) fun r1 =>
    (some r1))))

noncomputable def F_i_NegateAccumulator (x : (Int × (List Int))) : Option ((Int × (List Int)) × Int) :=
  (Option.bind (F_i_Register_size x) fun r1 =>
    (cond (ieq r1 0)
      (some ((0, ([] : (List Int))), 1))
      (Option.bind (F_i_Register_number x) fun r3 =>
        (Option.bind (F_i_isNumber (r1, (isub .i64 0 r3))) fun r4 =>
          (cond (bnot r4)
            (some ((0, ([] : (List Int))), 5))
            (Option.bind (F_i_Register_width x) fun r6 =>
              (Option.bind (F_i_Register_number x) fun r7 =>
                (Option.bind (F_i_accumulator (x.1, (r6, (r1, (isub .i64 0 r7))))) fun r8 =>
                  (some (r8, 0))))))))))

noncomputable def F_l_FnExactNegateAccumulator (x : (Int × (List Int))) : Option Bool :=
  (Option.bind (F_l_szRegister (x, 1048576)) fun r1 =>
    (cond (ilt r1 0)
      (some true)
      (Option.bind (F_l_toRegister x) fun r3 =>
        (Option.bind (F_s_NegateAccumulator r3) fun r4 =>
          (Option.bind (F_l_toRegister x) fun r5 =>
            (Option.bind (F_i_NegateAccumulator r5) fun r6 =>
              (Option.bind (F_l_eqRegister (r6.1, r4.1)) fun r7 =>
                (cond (bnot r7)
                  (some false)
                  (cond (ine r6.2 r4.2)
                    (some false)
                    (Option.bind (F_l_toRegister x) fun r10 =>
                      (Option.bind (F_l_eqRegister (r5, r10)) fun r11 =>
                        (cond (bnot r11)
                          (some false)
                          (Option.bind (F_l_markRegister (r5, 1)) fun r13 =>
                            (cond (ilt r13.1 0)
                              (some false)
                              (Option.bind (F_l_eqRegister (r6.1, r4.1)) fun r15 =>
                                (cond (bnot r15)
                                  (some false)
                                  (cond (ine r6.2 r4.2)
                                    (some false)
                                    (Option.bind (F_l_markRegister (r6.1, 1)) fun r18 =>
                                      (Option.bind (F_l_heldRegister ((r6.1.1, r18.2.2), 1)) fun r19 =>
                                        (cond (ilt r19 0)
                                          (some false)
                                          (cond (ine r19 r18.1)
                                            (some false)
                                            (Option.bind (F_l_toRegister x) fun r22 =>
                                              (Option.bind (F_i_NegateAccumulator r22) fun r23 =>
                                                (Option.bind (F_l_eqRegister (r23.1, r4.1)) fun r24 =>
                                                  (cond (bnot r24)
                                                    (some false)
                                                    (cond (ine r23.2 r4.2)
                                                      (some false)
                                                      (Option.bind (F_l_heldRegister ((r6.1.1, r18.2.2), 1)) fun r27 =>
                                                        (cond (ilt r27 0)
                                                          (some false)
                                                          (cond (ine r27 r18.1)
                                                            (some false)
                                                            (some true))))))))))))))))))))))))))))))

noncomputable def F_s_l09Most (x : Int) : Option Bool :=
  (Option.bind (F_s_l00In (x, ((-1000000000000), 1000000000000))) fun r1 =>
    (some r1))

noncomputable def F_s_l09Add (x : ((Int × (List Int)) × Int)) : Option ((Int × (List Int)) × Bool) :=
  (Option.bind (F_s_l09Number x.1) fun r1 =>
    (Option.bind (F_s_l09Set (x.1.1, ((n2i (xlen x.1.2)), (iadd .i64 r1 x.2)))) fun r2 =>
      (Option.bind (F_s_l09In (x.1.1, ((n2i (xlen x.1.2)), (iadd .i64 r1 x.2)))) fun r3 =>
        (some (r2, (bnot r3))))))

noncomputable def F_s_AccumulateNumber (x : ((Int × (List Int)) × Int)) : Option ((Int × (List Int)) × (Bool × Int)) :=
  (Option.bind (F_s_l09Ok x.1) fun r1 =>
    (cond (bnot r1)
      (some ((0, ([] : (List Int))), (false, 1)))
      (Option.bind (F_s_l09Most x.2) fun r3 =>
        (cond (bnot r3)
          (some ((0, ([] : (List Int))), (false, 2)))
          (Option.bind (F_s_l09Add (x.1, x.2)) fun r5 =>
            (some (r5.1, (r5.2, 0))))))))

noncomputable def F_i_accumulated (x : ((Int × (List Int)) × Int)) : Option ((Int × (List Int)) × Bool) :=
  (Option.bind (F_i_Register_size x.1) fun r1 =>
    (Option.bind (F_i_Register_number x.1) fun r2 =>
      (Option.bind (F_i_Register_width x.1) fun r3 =>
        (Option.bind (F_i_accumulator (x.1.1, (r3, (r1, (iadd .i64 r2 x.2))))) fun r4 =>
          (Option.bind (F_i_isNumber (r1, (iadd .i64 r2 x.2))) fun r5 =>
            (some (r4, (bnot r5))))))))

noncomputable def F_i_AccumulateNumber (x : ((Int × (List Int)) × Int)) : Option ((Int × (List Int)) × (Bool × Int)) :=
  (Option.bind (F_i_Register_size x.1) fun r1 =>
    (cond (ieq r1 0)
      (some ((0, ([] : (List Int))), (false, 1)))
      (Option.bind (F_i_between (x.2, ((-1000000000000), 1000000000000))) fun r3 =>
        (cond (bnot r3)
          (some ((0, ([] : (List Int))), (false, 2)))
          (Option.bind (F_i_accumulated (x.1, x.2)) fun r5 =>
            (some (r5.1, (r5.2, 0))))))))

noncomputable def F_l_FnExactAccumulateNumber (x : ((Int × (List Int)) × Int)) : Option Bool :=
  (Option.bind (F_l_szRegister (x.1, 1048576)) fun r1 =>
    (cond (ilt r1 0)
      (some true)
      (Option.bind (F_l_toRegister x.1) fun r3 =>
        (Option.bind (F_s_AccumulateNumber (r3, x.2)) fun r4 =>
          (Option.bind (F_l_toRegister x.1) fun r5 =>
            (Option.bind (F_i_AccumulateNumber (r5, x.2)) fun r6 =>
              (Option.bind (F_l_eqRegister (r6.1, r4.1)) fun r7 =>
                (cond (bnot r7)
                  (some false)
                  (cond (bnev r6.2.1 r4.2.1)
                    (some false)
                    (cond (ine r6.2.2 r4.2.2)
                      (some false)
                      (Option.bind (F_l_toRegister x.1) fun r11 =>
                        (Option.bind (F_l_eqRegister (r5, r11)) fun r12 =>
                          (cond (bnot r12)
                            (some false)
                            (Option.bind (F_l_markRegister (r5, 1)) fun r14 =>
                              (cond (ilt r14.1 0)
                                (some false)
                                (Option.bind (F_l_eqRegister (r6.1, r4.1)) fun r16 =>
                                  (cond (bnot r16)
                                    (some false)
                                    (cond (bnev r6.2.1 r4.2.1)
                                      (some false)
                                      (cond (ine r6.2.2 r4.2.2)
                                        (some false)
                                        (Option.bind (F_l_markRegister (r6.1, 1)) fun r20 =>
                                          (Option.bind (F_l_heldRegister ((r6.1.1, r20.2.2), 1)) fun r21 =>
                                            (cond (ilt r21 0)
                                              (some false)
                                              (cond (ine r21 r20.1)
                                                (some false)
                                                (Option.bind (F_l_toRegister x.1) fun r24 =>
                                                  (Option.bind (F_i_AccumulateNumber (r24, x.2)) fun r25 =>
                                                    (Option.bind (F_l_eqRegister (r25.1, r4.1)) fun r26 =>
                                                      (cond (bnot r26)
                                                        (some false)
                                                        (cond (bnev r25.2.1 r4.2.1)
                                                          (some false)
                                                          (cond (ine r25.2.2 r4.2.2)
                                                            (some false)
                                                            (Option.bind (F_l_heldRegister ((r6.1.1, r20.2.2), 1)) fun r30 =>
                                                              (cond (ilt r30 0)
                                                                (some false)
                                                                (cond (ine r30 r20.1)
                                                                  (some false)
                                                                  (some true)))))))))))))))))))))))))))))))))

noncomputable def F_s_TransferTo (x : ((Int × (List Int)) × (Int × (List Int)))) : Option ((Int × (List Int)) × ((Int × (List Int)) × (Bool × Int))) :=
  (Option.bind (F_s_l09Ok x.1) fun r1 =>
    (cond (bnot r1)
      (some ((0, ([] : (List Int))), ((0, ([] : (List Int))), (false, 1))))
      (Option.bind (F_s_l09Ok x.2) fun r3 =>
        (cond (bnot r3)
          (some ((0, ([] : (List Int))), ((0, ([] : (List Int))), (false, 1))))
          (cond (ine x.1.1 x.2.1)
            (some ((0, ([] : (List Int))), ((0, ([] : (List Int))), (false, 6))))
            (Option.bind (F_s_l02New (x.1.1, ((n2i (xlen x.1.2)), 0))) fun r6 =>
              (Option.bind (F_s_l09Number x.1) fun r7 =>
                (Option.bind (F_s_l09Add (x.2, r7)) fun r8 =>
                  (some (r6.1, (r8.1, (r8.2, 0))))))))))))

noncomputable def F_i_TransferTo (x : ((Int × (List Int)) × (Int × (List Int)))) : Option ((Int × (List Int)) × ((Int × (List Int)) × (Bool × Int))) :=
  (Option.bind (F_i_Register_size x.1) fun r1 =>
    (cond (ieq r1 0)
      (some ((0, ([] : (List Int))), ((0, ([] : (List Int))), (false, 1))))
      (Option.bind (F_i_Register_size x.2) fun r3 =>
        (cond (ieq r3 0)
          (some ((0, ([] : (List Int))), ((0, ([] : (List Int))), (false, 1))))
          (cond (ine x.1.1 x.2.1)
            (some ((0, ([] : (List Int))), ((0, ([] : (List Int))), (false, 6))))
            (Option.bind (F_i_Register_width x.1) fun r6 =>
              (Option.bind (F_i_registerOf (x.1.1, (r6, 0))) fun r7 =>
                (Option.bind (F_i_Register_number x.1) fun r8 =>
                  (Option.bind (F_i_accumulated (x.2, r8)) fun r9 =>
                    (some (r7.1, (r9.1, (r9.2, 0)))))))))))))

noncomputable def F_l_FnExactTransferTo (x : ((Int × (List Int)) × (Int × (List Int)))) : Option Bool :=
  (Option.bind (F_l_szRegister (x.1, 1048576)) fun r1 =>
    (cond (ilt r1 0)
      (some true)
      (Option.bind (F_l_szRegister (x.2, r1)) fun r3 =>
        (cond (ilt r3 0)
          (some true)
          (Option.bind (F_l_toRegister x.1) fun r5 =>
            (Option.bind (F_l_toRegister x.2) fun r6 =>
              (Option.bind (F_s_TransferTo (r5, r6)) fun r7 =>
                (Option.bind (F_l_toRegister x.1) fun r8 =>
                  (Option.bind (F_l_toRegister x.2) fun r9 =>
                    (Option.bind (F_i_TransferTo (r8, r9)) fun r10 =>
                      (Option.bind (F_l_eqRegister (r10.1, r7.1)) fun r11 =>
                        (cond (bnot r11)
                          (some false)
                          (Option.bind (F_l_eqRegister (r10.2.1, r7.2.1)) fun r13 =>
                            (cond (bnot r13)
                              (some false)
                              (cond (bnev r10.2.2.1 r7.2.2.1)
                                (some false)
                                (cond (ine r10.2.2.2 r7.2.2.2)
                                  (some false)
                                  (Option.bind (F_l_toRegister x.1) fun r17 =>
                                    (Option.bind (F_l_eqRegister (r8, r17)) fun r18 =>
                                      (cond (bnot r18)
                                        (some false)
                                        (Option.bind (F_l_toRegister x.2) fun r20 =>
                                          (Option.bind (F_l_eqRegister (r9, r20)) fun r21 =>
                                            (cond (bnot r21)
                                              (some false)
                                              (Option.bind (F_l_markRegister (r8, 1)) fun r23 =>
                                                (Option.bind (F_l_markRegister (r9, r23.1)) fun r24 =>
                                                  (cond (ilt r24.1 0)
                                                    (some false)
                                                    (Option.bind (F_l_eqRegister (r10.1, r7.1)) fun r26 =>
                                                      (cond (bnot r26)
                                                        (some false)
                                                        (Option.bind (F_l_eqRegister (r10.2.1, r7.2.1)) fun r28 =>
                                                          (cond (bnot r28)
                                                            (some false)
                                                            (cond (bnev r10.2.2.1 r7.2.2.1)
                                                              (some false)
                                                              (cond (ine r10.2.2.2 r7.2.2.2)
                                                                (some false)
                                                                (Option.bind (F_l_markRegister (r10.1, 1)) fun r32 =>
                                                                  (Option.bind (F_l_markRegister (r10.2.1, r32.1)) fun r33 =>
                                                                    (Option.bind (F_l_heldRegister ((r10.1.1, r32.2.2), 1)) fun r34 =>
                                                                      (cond (ilt r34 0)
                                                                        (some false)
                                                                        (Option.bind (F_l_heldRegister ((r10.2.1.1, r33.2.2), r34)) fun r36 =>
                                                                          (cond (ilt r36 0)
                                                                            (some false)
                                                                            (cond (ine r36 r33.1)
                                                                              (some false)
                                                                              (Option.bind (F_l_toRegister x.1) fun r39 =>
                                                                                (Option.bind (F_l_toRegister x.2) fun r40 =>
                                                                                  (Option.bind (F_i_TransferTo (r39, r40)) fun r41 =>
                                                                                    (Option.bind (F_l_eqRegister (r41.1, r7.1)) fun r42 =>
                                                                                      (cond (bnot r42)
                                                                                        (some false)
                                                                                        (Option.bind (F_l_eqRegister (r41.2.1, r7.2.1)) fun r44 =>
                                                                                          (cond (bnot r44)
                                                                                            (some false)
                                                                                            (cond (bnev r41.2.2.1 r7.2.2.1)
                                                                                              (some false)
                                                                                              (cond (ine r41.2.2.2 r7.2.2.2)
                                                                                                (some false)
                                                                                                (Option.bind (F_l_heldRegister ((r10.1.1, r32.2.2), 1)) fun r48 =>
                                                                                                  (cond (ilt r48 0)
                                                                                                    (some false)
                                                                                                    (Option.bind (F_l_heldRegister ((r10.2.1.1, r33.2.2), r48)) fun r50 =>
                                                                                                      (cond (ilt r50 0)
                                                                                                        (some false)
                                                                                                        (cond (ine r50 r33.1)
                                                                                                          (some false)
                                                                                                          (some true)))))))))))))))))))))))))))))))))))))))))))))))))))))

noncomputable def F_s_l00Own (x : (List Int)) : Option (List Int) :=
  (chk (okRoom (xlen ([] : (List Int))) (xlen x) 8)
  (some (xapp ([] : (List Int)) x)))

noncomputable def F_s_l02Own (x : (Int × (List Int))) : Option (Int × (List Int)) :=
  (Option.bind (F_s_l00Own x.2) fun r1 =>
    (some (x.1, r1)))

noncomputable def F_s_AccumulateAll (x : ((Int × (List Int)) × (List Int))) : Option ((Int × (List Int)) × ((List Int) × Int)) :=
  (Option.bind (F_s_l09Ok x.1) fun r1 =>
    (cond (bnot r1)
      (some ((0, ([] : (List Int))), (([] : (List Int)), 1)))
      (iter (σ := (Int × ((List Int) × (Int × ((List Int) × (Int × (List Int))))))) (fun s3 =>
        (cond (ilt s3.1 (n2i (xlen s3.2.1)))
          (chk (okIx s3.1 (xlen s3.2.1))
          (Option.bind (F_s_l09Most (xget s3.2.1 (i2n s3.1) 0)) fun r5 =>
            (cond (bnot r5)
              (some (.inr ((0, ([] : (List Int))), (([] : (List Int)), 2))))
              (some (.inl ((iadd .i64 s3.1 1), (s3.2.1, (s3.2.2.1, (s3.2.2.2.1, s3.2.2.2.2)))))))))
          (Option.map Sum.inr
            (Option.bind (F_s_l02Own (s3.2.2.1, s3.2.2.2.1)) fun r5 =>
            (iter (σ := (Int × ((List Int) × (Int × ((List Int) × (Int × ((List Int) × (List Int)))))))) (fun s6 =>
              (cond (ilt s6.1 (n2i (xlen s6.2.1)))
                (chk (okIx s6.1 (xlen s6.2.1))
                (Option.bind (F_s_l09Add ((s6.2.2.2.2.1, s6.2.2.2.2.2.1), (xget s6.2.1 (i2n s6.1) 0))) fun r8 =>
                  (cond r8.2
                    (chk (okRoom (xlen s6.2.2.2.2.2.2) (xlen (s6.1 :: ([] : (List Int)))) 8)
                    (some (.inl ((iadd .i64 s6.1 1), (s6.2.1, (s6.2.2.1, (s6.2.2.2.1, (r8.1.1, (r8.1.2, (xapp s6.2.2.2.2.2.2 (s6.1 :: ([] : (List Int)))))))))))))
                    (some (.inl ((iadd .i64 s6.1 1), (s6.2.1, (s6.2.2.1, (s6.2.2.2.1, (r8.1.1, (r8.1.2, s6.2.2.2.2.2.2)))))))))))
                (some (.inr ((s6.2.2.2.2.1, s6.2.2.2.2.2.1), (s6.2.2.2.2.2.2, 0))))))
              (0, (s3.2.1, (s3.2.2.2.2.1, (s3.2.2.2.2.2, (r5.1, (r5.2, ([] : (List Int)))))))))))))
        (0, (x.2, (x.1.1, (x.1.2, (0, ([] : (List Int))))))))))

noncomputable def F_i_copyNumbers (x : (List Int)) : Option (List Int) :=
  (chk (okRoom (xlen ([] : (List Int))) (xlen x) 8)
  (some (xapp ([] : (List Int)) x)))

noncomputable def F_i_AccumulateAll (x : ((Int × (List Int)) × (List Int))) : Option ((Int × (List Int)) × ((List Int) × Int)) :=
  (Option.bind (F_i_Register_size x.1) fun r1 =>
    (cond (ieq r1 0)
      (some ((0, ([] : (List Int))), (([] : (List Int)), 1)))
      (iter (σ := (Int × (Int × ((List Int) × (Int × ((List Int) × (Int × (List Int)))))))) (fun s3 =>
        (cond (ilt s3.2.1 s3.1)
          (chk (okIx s3.2.1 (xlen s3.2.2.1))
          (Option.bind (F_i_between ((xget s3.2.2.1 (i2n s3.2.1) 0), ((-1000000000000), 1000000000000))) fun r5 =>
            (cond (bnot r5)
              (some (.inr ((0, ([] : (List Int))), (([] : (List Int)), 2))))
              (some (.inl (s3.1, ((iadd .i64 s3.2.1 1), (s3.2.2.1, (s3.2.2.2.1, (s3.2.2.2.2.1, s3.2.2.2.2.2))))))))))
          (Option.map Sum.inr
            (Option.bind (F_i_copyNumbers s3.2.2.2.2.1) fun r5 =>
            (iter (σ := (Int × (Int × (Int × ((List Int) × (Int × ((List Int) × ((List Int) × (List Int))))))))) (fun s6 =>
              (cond (ilt s6.2.1 s6.1)
                (chk (okIx s6.2.1 (xlen s6.2.2.2.2.2.2.2))
                (Option.bind (F_i_accumulated ((s6.2.2.2.2.1, s6.2.2.2.2.2.1), (xget s6.2.2.2.2.2.2.2 (i2n s6.2.1) 0))) fun r8 =>
                  (cond r8.2
                    (chk (okRoom (xlen s6.2.2.2.2.2.2.1) (xlen (s6.2.1 :: ([] : (List Int)))) 8)
                    (some (.inl (s6.1, ((iadd .i64 s6.2.1 1), (s6.2.2.1, (s6.2.2.2.1, (r8.1.1, (r8.1.2, ((xapp s6.2.2.2.2.2.2.1 (s6.2.1 :: ([] : (List Int)))), s6.2.2.2.2.2.2.2))))))))))
                    (some (.inl (s6.1, ((iadd .i64 s6.2.1 1), (s6.2.2.1, (s6.2.2.2.1, (r8.1.1, (r8.1.2, s6.2.2.2.2.2.2)))))))))))
                (some (.inr ((s6.2.2.2.2.1, s6.2.2.2.2.2.1), (s6.2.2.2.2.2.2.1, 0))))))
              ((n2i (xlen s3.2.2.1)), (0, (s3.2.2.2.2.2.1, (s3.2.2.2.2.2.2, (s3.2.2.2.1, (r5, (([] : (List Int)), s3.2.2.1))))))))))))
        ((n2i (xlen x.2)), (0, (x.2, (x.1.1, (x.1.2, (0, ([] : (List Int)))))))))))

noncomputable def F_l_FnExactAccumulateAll (x : ((Int × (List Int)) × (List Int))) : Option Bool :=
  (cond (igt (n2i (xlen x.2)) 1048576)
    (some true)
    (Option.bind (F_l_szRegister (x.1, 1048576)) fun r2 =>
      (cond (ilt r2 0)
        (some true)
        (Option.bind (F_l_toRegister x.1) fun r4 =>
          (Option.bind (F_l_toInt64S x.2) fun r5 =>
            (Option.bind (F_s_AccumulateAll (r4, r5)) fun r6 =>
              (Option.bind (F_l_toRegister x.1) fun r7 =>
                (Option.bind (F_l_toInt64S x.2) fun r8 =>
                  (Option.bind (F_i_AccumulateAll (r7, r8)) fun r9 =>
                    (Option.bind (F_l_eqRegister (r9.1, r6.1)) fun r10 =>
                      (cond (bnot r10)
                        (some false)
                        (Option.bind (F_l_eqInt64S (r9.2.1, r6.2.1)) fun r12 =>
                          (cond (bnot r12)
                            (some false)
                            (cond (ine r9.2.2 r6.2.2)
                              (some false)
                              (Option.bind (F_l_toRegister x.1) fun r15 =>
                                (Option.bind (F_l_eqRegister (r7, r15)) fun r16 =>
                                  (cond (bnot r16)
                                    (some false)
                                    (Option.bind (F_l_toInt64S x.2) fun r18 =>
                                      (Option.bind (F_l_eqInt64S (r8, r18)) fun r19 =>
                                        (cond (bnot r19)
                                          (some false)
                                          (Option.bind (F_l_markRegister (r7, 1)) fun r21 =>
                                            (Option.bind (F_l_markInt64S (r8, r21.1)) fun r22 =>
                                              (cond (ilt r22.1 0)
                                                (some false)
                                                (Option.bind (F_l_eqRegister (r9.1, r6.1)) fun r24 =>
                                                  (cond (bnot r24)
                                                    (some false)
                                                    (Option.bind (F_l_eqInt64S (r9.2.1, r6.2.1)) fun r26 =>
                                                      (cond (bnot r26)
                                                        (some false)
                                                        (cond (ine r9.2.2 r6.2.2)
                                                          (some false)
                                                          (Option.bind (F_l_markRegister (r9.1, 1)) fun r29 =>
                                                            (Option.bind (F_l_markInt64S (r9.2.1, r29.1)) fun r30 =>
                                                              (Option.bind (F_l_heldRegister ((r9.1.1, r29.2.2), 1)) fun r31 =>
                                                                (cond (ilt r31 0)
                                                                  (some false)
                                                                  (Option.bind (F_l_heldInt64S (r30.2, r31)) fun r33 =>
                                                                    (cond (ilt r33 0)
                                                                      (some false)
                                                                      (cond (ine r33 r30.1)
                                                                        (some false)
                                                                        (Option.bind (F_l_toRegister x.1) fun r36 =>
                                                                          (Option.bind (F_l_toInt64S x.2) fun r37 =>
                                                                            (Option.bind (F_i_AccumulateAll (r36, r37)) fun r38 =>
                                                                              (Option.bind (F_l_eqRegister (r38.1, r6.1)) fun r39 =>
                                                                                (cond (bnot r39)
                                                                                  (some false)
                                                                                  (Option.bind (F_l_eqInt64S (r38.2.1, r6.2.1)) fun r41 =>
                                                                                    (cond (bnot r41)
                                                                                      (some false)
                                                                                      (cond (ine r38.2.2 r6.2.2)
                                                                                        (some false)
                                                                                        (Option.bind (F_l_heldRegister ((r9.1.1, r29.2.2), 1)) fun r44 =>
                                                                                          (cond (ilt r44 0)
                                                                                            (some false)
                                                                                            (Option.bind (F_l_heldInt64S (r30.2, r44)) fun r46 =>
                                                                                              (cond (ilt r46 0)
                                                                                                (some false)
                                                                                                (cond (ine r46 r30.1)
                                                                                                  (some false)
                                                                                                  (some true)))))))))))))))))))))))))))))))))))))))))))))))))

noncomputable def F_s_l10Own (x : ((Int × (List Int)) × ((Int × (List Int)) × ((Int × (List Int)) × Int)))) : Option ((Int × (List Int)) × ((Int × (List Int)) × ((Int × (List Int)) × Int))) :=
  (Option.bind (F_s_l02Own x.1) fun r1 =>
    (Option.bind (F_s_l02Own x.2.1) fun r2 =>
      (Option.bind (F_s_l02Own x.2.2.1) fun r3 =>
        (some (r1, (r2, (r3, x.2.2.2)))))))

noncomputable def F_s_SetDigit (x : (((Int × (List Int)) × ((Int × (List Int)) × ((Int × (List Int)) × Int))) × (Int × Int))) : Option (((Int × (List Int)) × ((Int × (List Int)) × ((Int × (List Int)) × Int))) × Int) :=
  (Option.bind (F_s_l10Ok (x.1.1, (x.1.2.1, (x.1.2.2.1, x.1.2.2.2)))) fun r1 =>
    (cond (bnot r1)
      (some (((0, ([] : (List Int))), ((0, ([] : (List Int))), ((0, ([] : (List Int))), 0))), 1))
      (Option.bind (F_s_l00In (x.2.1, (0, (isub .i64 (n2i (xlen x.1.1.2)) 1)))) fun r3 =>
        (cond (bnot r3)
          (some (((0, ([] : (List Int))), ((0, ([] : (List Int))), ((0, ([] : (List Int))), 0))), 2))
          (Option.bind (F_s_l00In (x.2.2, (0, (isub .i64 x.1.1.1 1)))) fun r5 =>
            (cond (bnot r5)
              (some (((0, ([] : (List Int))), ((0, ([] : (List Int))), ((0, ([] : (List Int))), 0))), 2))
              (Option.bind (F_s_l10Own (x.1.1, (x.1.2.1, (x.1.2.2.1, x.1.2.2.2)))) fun r7 =>
                (chk (okIx x.2.1 (xlen r7.1.2))
                (some (((r7.1.1, (xset r7.1.2 (i2n x.2.1) x.2.2)), (r7.2.1, (r7.2.2.1, r7.2.2.2))), 0))))))))))

noncomputable def F_i_Register_copied (x : (Int × (List Int))) : Option (Int × (List Int)) :=
  (Option.bind (F_i_copyNumbers x.2) fun r1 =>
    (some (x.1, r1)))

noncomputable def F_i_Machine_copied (x : ((Int × (List Int)) × ((Int × (List Int)) × ((Int × (List Int)) × Int)))) : Option ((Int × (List Int)) × ((Int × (List Int)) × ((Int × (List Int)) × Int))) :=
  (Option.bind (F_i_Register_copied x.1) fun r1 =>
    (Option.bind (F_i_Register_copied x.2.1) fun r2 =>
      (Option.bind (F_i_Register_copied x.2.2.1) fun r3 =>
        (some (r1, (r2, (r3, x.2.2.2)))))))

noncomputable def F_i_SetDigit (x : (((Int × (List Int)) × ((Int × (List Int)) × ((Int × (List Int)) × Int))) × (Int × Int))) : Option (((Int × (List Int)) × ((Int × (List Int)) × ((Int × (List Int)) × Int))) × Int) :=
  (Option.bind (F_i_ValidMachine (x.1.1, (x.1.2.1, (x.1.2.2.1, x.1.2.2.2)))) fun r1 =>
    (cond (bnot r1)
      (some (((0, ([] : (List Int))), ((0, ([] : (List Int))), ((0, ([] : (List Int))), 0))), 1))
      (Option.bind (F_i_Register_width x.1.1) fun r3 =>
        (Option.bind (F_i_between (x.2.1, (0, (isub .i64 r3 1)))) fun r4 =>
          (cond (bnot r4)
            (some (((0, ([] : (List Int))), ((0, ([] : (List Int))), ((0, ([] : (List Int))), 0))), 2))
            (Option.bind (F_i_between (x.2.2, (0, (isub .i64 x.1.1.1 1)))) fun r6 =>
              (cond (bnot r6)
                (some (((0, ([] : (List Int))), ((0, ([] : (List Int))), ((0, ([] : (List Int))), 0))), 2))
                (Option.bind (F_i_Machine_copied (x.1.1, (x.1.2.1, (x.1.2.2.1, x.1.2.2.2)))) fun r8 =>
                  (chk (okIx x.2.1 (xlen r8.1.2))
                  (some (((r8.1.1, (xset r8.1.2 (i2n x.2.1) x.2.2)), (r8.2.1, (r8.2.2.1, r8.2.2.2))), 0)))))))))))

noncomputable def F_l_FnExactSetDigit (x : (((Int × (List Int)) × ((Int × (List Int)) × ((Int × (List Int)) × Int))) × (Int × Int))) : Option Bool :=
  (Option.bind (F_l_szMachine ((x.1.1, (x.1.2.1, (x.1.2.2.1, x.1.2.2.2))), 1048576)) fun r1 =>
    (cond (ilt r1 0)
      (some true)
      (Option.bind (F_l_toMachine (x.1.1, (x.1.2.1, (x.1.2.2.1, x.1.2.2.2)))) fun r3 =>
        (Option.bind (F_s_SetDigit ((r3.1, (r3.2.1, (r3.2.2.1, r3.2.2.2))), x.2)) fun r4 =>
          (Option.bind (F_l_toMachine (x.1.1, (x.1.2.1, (x.1.2.2.1, x.1.2.2.2)))) fun r5 =>
            (Option.bind (F_i_SetDigit ((r5.1, (r5.2.1, (r5.2.2.1, r5.2.2.2))), x.2)) fun r6 =>
              (Option.bind (F_l_eqMachine ((r6.1.1, (r6.1.2.1, (r6.1.2.2.1, r6.1.2.2.2))), (r4.1.1, (r4.1.2.1, (r4.1.2.2.1, r4.1.2.2.2))))) fun r7 =>
                (cond (bnot r7)
                  (some false)
                  (cond (ine r6.2 r4.2)
                    (some false)
                    (Option.bind (F_l_toMachine (x.1.1, (x.1.2.1, (x.1.2.2.1, x.1.2.2.2)))) fun r10 =>
                      (Option.bind (F_l_eqMachine ((r5.1, (r5.2.1, (r5.2.2.1, r5.2.2.2))), (r10.1, (r10.2.1, (r10.2.2.1, r10.2.2.2))))) fun r11 =>
                        (cond (bnot r11)
                          (some false)
                          (Option.bind (F_l_markMachine ((r5.1, (r5.2.1, (r5.2.2.1, r5.2.2.2))), 1)) fun r13 =>
                            (cond (ilt r13.1 0)
                              (some false)
                              (Option.bind (F_l_eqMachine ((r6.1.1, (r6.1.2.1, (r6.1.2.2.1, r6.1.2.2.2))), (r4.1.1, (r4.1.2.1, (r4.1.2.2.1, r4.1.2.2.2))))) fun r15 =>
                                (cond (bnot r15)
                                  (some false)
                                  (cond (ine r6.2 r4.2)
                                    (some false)
                                    (Option.bind (F_l_markMachine ((r6.1.1, (r6.1.2.1, (r6.1.2.2.1, r6.1.2.2.2))), 1)) fun r18 =>
                                      (Option.bind (F_l_heldMachine (((r6.1.1.1, r18.2.1.2), ((r6.1.2.1.1, r18.2.2.1.2), ((r6.1.2.2.1.1, r18.2.2.2.1.2), r6.1.2.2.2))), 1)) fun r19 =>
                                        (cond (ilt r19 0)
                                          (some false)
                                          (cond (ine r19 r18.1)
                                            (some false)
                                            (Option.bind (F_l_toMachine (x.1.1, (x.1.2.1, (x.1.2.2.1, x.1.2.2.2)))) fun r22 =>
                                              (Option.bind (F_i_SetDigit ((r22.1, (r22.2.1, (r22.2.2.1, r22.2.2.2))), x.2)) fun r23 =>
                                                (Option.bind (F_l_eqMachine ((r23.1.1, (r23.1.2.1, (r23.1.2.2.1, r23.1.2.2.2))), (r4.1.1, (r4.1.2.1, (r4.1.2.2.1, r4.1.2.2.2))))) fun r24 =>
                                                  (cond (bnot r24)
                                                    (some false)
                                                    (cond (ine r23.2 r4.2)
                                                      (some false)
                                                      (Option.bind (F_l_heldMachine (((r6.1.1.1, r18.2.1.2), ((r6.1.2.1.1, r18.2.2.1.2), ((r6.1.2.2.1.1, r18.2.2.2.1.2), r6.1.2.2.2))), 1)) fun r27 =>
                                                        (cond (ilt r27 0)
                                                          (some false)
                                                          (cond (ine r27 r18.1)
                                                            (some false)
                                                            (some true))))))))))))))))))))))))))))))

noncomputable def F_s_SetValue (x : (((Int × (List Int)) × ((Int × (List Int)) × ((Int × (List Int)) × Int))) × Int)) : Option (((Int × (List Int)) × ((Int × (List Int)) × ((Int × (List Int)) × Int))) × Int) :=
  (Option.bind (F_s_l10Ok (x.1.1, (x.1.2.1, (x.1.2.2.1, x.1.2.2.2)))) fun r1 =>
    (cond (bnot r1)
      (some (((0, ([] : (List Int))), ((0, ([] : (List Int))), ((0, ([] : (List Int))), 0))), 1))
      (Option.bind (F_s_l10Power (x.1.1.1, (n2i (xlen x.1.1.2)))) fun r3 =>
        (Option.bind (F_s_l00In (x.2, (0, (isub .i64 r3 1)))) fun r4 =>
          (cond (bnot r4)
            (some (((0, ([] : (List Int))), ((0, ([] : (List Int))), ((0, ([] : (List Int))), 0))), 2))
            (Option.bind (F_s_l10Own (x.1.1, (x.1.2.1, (x.1.2.2.1, x.1.2.2.2)))) fun r6 =>
              (Option.bind (F_s_l02New (x.1.1.1, ((n2i (xlen x.1.1.2)), x.2))) fun r7 =>
                (some ((r7.1, (r6.2.1, (r6.2.2.1, r6.2.2.2))), 0)))))))))

noncomputable def F_i_Machine_withSetting (x : (((Int × (List Int)) × ((Int × (List Int)) × ((Int × (List Int)) × Int))) × Int)) : Option (((Int × (List Int)) × ((Int × (List Int)) × ((Int × (List Int)) × Int))) × Bool) :=
  (Option.bind (F_i_Register_width x.1.1) fun r1 =>
    (Option.bind (F_i_registerOf (x.1.1.1, (r1, x.2))) fun r2 =>
      (Option.bind (F_i_Machine_copied (x.1.1, (x.1.2.1, (x.1.2.2.1, x.1.2.2.2)))) fun r3 =>
        (some ((r2.1, (r3.2.1, (r3.2.2.1, r3.2.2.2))), r2.2)))))

noncomputable def F_i_SetValue (x : (((Int × (List Int)) × ((Int × (List Int)) × ((Int × (List Int)) × Int))) × Int)) : Option (((Int × (List Int)) × ((Int × (List Int)) × ((Int × (List Int)) × Int))) × Int) :=
  (Option.bind (F_i_ValidMachine (x.1.1, (x.1.2.1, (x.1.2.2.1, x.1.2.2.2)))) fun r1 =>
    (cond (bnot r1)
      (some (((0, ([] : (List Int))), ((0, ([] : (List Int))), ((0, ([] : (List Int))), 0))), 1))
      (cond (ilt x.2 0)
        (some (((0, ([] : (List Int))), ((0, ([] : (List Int))), ((0, ([] : (List Int))), 0))), 2))
        (Option.bind (F_i_Machine_withSetting ((x.1.1, (x.1.2.1, (x.1.2.2.1, x.1.2.2.2))), x.2)) fun r4 =>
          (cond (bnot r4.2)
            (some (((0, ([] : (List Int))), ((0, ([] : (List Int))), ((0, ([] : (List Int))), 0))), 2))
            (some ((r4.1.1, (r4.1.2.1, (r4.1.2.2.1, r4.1.2.2.2))), 0)))))))

noncomputable def F_l_FnExactSetValue (x : (((Int × (List Int)) × ((Int × (List Int)) × ((Int × (List Int)) × Int))) × Int)) : Option Bool :=
  (Option.bind (F_l_szMachine ((x.1.1, (x.1.2.1, (x.1.2.2.1, x.1.2.2.2))), 1048576)) fun r1 =>
    (cond (ilt r1 0)
      (some true)
      (Option.bind (F_l_toMachine (x.1.1, (x.1.2.1, (x.1.2.2.1, x.1.2.2.2)))) fun r3 =>
        (Option.bind (F_s_SetValue ((r3.1, (r3.2.1, (r3.2.2.1, r3.2.2.2))), x.2)) fun r4 =>
          (Option.bind (F_l_toMachine (x.1.1, (x.1.2.1, (x.1.2.2.1, x.1.2.2.2)))) fun r5 =>
            (Option.bind (F_i_SetValue ((r5.1, (r5.2.1, (r5.2.2.1, r5.2.2.2))), x.2)) fun r6 =>
              (Option.bind (F_l_eqMachine ((r6.1.1, (r6.1.2.1, (r6.1.2.2.1, r6.1.2.2.2))), (r4.1.1, (r4.1.2.1, (r4.1.2.2.1, r4.1.2.2.2))))) fun r7 =>
                (cond (bnot r7)
                  (some false)
                  (cond (ine r6.2 r4.2)
                    (some false)
                    (Option.bind (F_l_toMachine (x.1.1, (x.1.2.1, (x.1.2.2.1, x.1.2.2.2)))) fun r10 =>
                      (Option.bind (F_l_eqMachine ((r5.1, (r5.2.1, (r5.2.2.1, r5.2.2.2))), (r10.1, (r10.2.1, (r10.2.2.1, r10.2.2.2))))) fun r11 =>
                        (cond (bnot r11)
                          (some false)
                          (Option.bind (F_l_markMachine ((r5.1, (r5.2.1, (r5.2.2.1, r5.2.2.2))), 1)) fun r13 =>
                            (cond (ilt r13.1 0)
                              (some false)
                              (Option.bind (F_l_eqMachine ((r6.1.1, (r6.1.2.1, (r6.1.2.2.1, r6.1.2.2.2))), (r4.1.1, (r4.1.2.1, (r4.1.2.2.1, r4.1.2.2.2))))) fun r15 =>
                                (cond (bnot r15)
                                  (some false)
                                  (cond (ine r6.2 r4.2)
                                    (some false)
                                    (Option.bind (F_l_markMachine ((r6.1.1, (r6.1.2.1, (r6.1.2.2.1, r6.1.2.2.2))), 1)) fun r18 =>
                                      (Option.bind (F_l_heldMachine (((r6.1.1.1, r18.2.1.2), ((r6.1.2.1.1, r18.2.2.1.2), ((r6.1.2.2.1.1, r18.2.2.2.1.2), r6.1.2.2.2))), 1)) fun r19 =>
                                        (cond (ilt r19 0)
                                          (some false)
                                          (cond (ine r19 r18.1)
                                            (some false)
                                            (Option.bind (F_l_toMachine (x.1.1, (x.1.2.1, (x.1.2.2.1, x.1.2.2.2)))) fun r22 =>
                                              (Option.bind (F_i_SetValue ((r22.1, (r22.2.1, (r22.2.2.1, r22.2.2.2))), x.2)) fun r23 =>
                                                (Option.bind (F_l_eqMachine ((r23.1.1, (r23.1.2.1, (r23.1.2.2.1, r23.1.2.2.2))), (r4.1.1, (r4.1.2.1, (r4.1.2.2.1, r4.1.2.2.2))))) fun r24 =>
                                                  (cond (bnot r24)
                                                    (some false)
                                                    (cond (ine r23.2 r4.2)
                                                      (some false)
                                                      (Option.bind (F_l_heldMachine (((r6.1.1.1, r18.2.1.2), ((r6.1.2.1.1, r18.2.2.1.2), ((r6.1.2.2.1.1, r18.2.2.2.1.2), r6.1.2.2.2))), 1)) fun r27 =>
                                                        (cond (ilt r27 0)
                                                          (some false)
                                                          (cond (ine r27 r18.1)
                                                            (some false)
                                                            (some true))))))))))))))))))))))))))))))

noncomputable def F_l_a2Long (x : ((List Int) × (List Int))) : Option Bool :=
  (cond (igt (n2i (xlen x.1)) 3000)
    (some true)
    (some (igt (n2i (xlen x.2)) 3000)))

noncomputable def F_s_l10Move (x : ((Int × (List Int)) × Int)) : Option ((Int × (List Int)) × Bool) :=
  (Option.bind (F_s_l10Power (x.1.1, (n2i (xlen x.1.2)))) fun r1 =>
    (Option.bind (F_s_l02Value x.1) fun r2 =>
      (chk (okDiv r1)
      (chk (okDiv r1)
      (Option.bind (F_s_l02New (x.1.1, ((n2i (xlen x.1.2)), (irem (iadd .i64 (irem (iadd .i64 r2 x.2) r1) r1) r1)))) fun r3 =>
        (Option.bind (F_s_l00In ((iadd .i64 r2 x.2), (0, (isub .i64 r1 1)))) fun r4 =>
          (some (r3.1, (bnot r4)))))))))

noncomputable def F_s_l10Turn (x : (((Int × (List Int)) × ((Int × (List Int)) × ((Int × (List Int)) × Int))) × Int)) : Option (Bool × ((Int × (List Int)) × ((Int × (List Int)) × ((Int × (List Int)) × Int)))) :=
  (Option.bind (F_s_l10Power (x.1.1.1, x.1.2.2.2)) fun r1 =>
    (Option.bind (F_s_l02Value x.1.1) fun r2 =>
      (Option.bind (F_s_l10Move (x.1.2.1, (imul .i64 (imul .i64 x.2 r1) r2))) fun r3 =>
        (Option.bind (F_s_l10Move (x.1.2.2.1, (imul .i64 x.2 r1))) fun r4 =>
          (some (r3.2, (x.1.1, (r3.1, (r4.1, x.1.2.2.2)))))))))

noncomputable def F_s_l10Shift (x : (((Int × (List Int)) × ((Int × (List Int)) × ((Int × (List Int)) × Int))) × Int)) : Option (Bool × ((Int × (List Int)) × ((Int × (List Int)) × ((Int × (List Int)) × Int)))) :=
  (Option.bind (F_s_l10Places (x.1.1, (x.1.2.1, (x.1.2.2.1, x.1.2.2.2)))) fun r1 =>
    (Option.bind (F_s_l00In ((iadd .i64 x.1.2.2.2 x.2), (0, (isub .i64 r1 1)))) fun r2 =>
      (cond (bnot r2)
        (some (true, (x.1.1, (x.1.2.1, (x.1.2.2.1, x.1.2.2.2)))))
        (some (false, (x.1.1, (x.1.2.1, (x.1.2.2.1, (iadd .i64 x.1.2.2.2 x.2)))))))))

noncomputable def F_s_l10Zero (x : ((Int × (List Int)) × ((Int × (List Int)) × ((Int × (List Int)) × Int)))) : Option ((Int × (List Int)) × ((Int × (List Int)) × ((Int × (List Int)) × Int))) :=
  (iter (σ := (Int × (Int × (Int × (Int × (Int × ((List Int) × ((List Int) × (List Int))))))))) (fun s1 =>
    (cond (ilt s1.1 (n2i (xlen s1.2.2.2.2.2.1)))
      (chk (okIx s1.1 (xlen s1.2.2.2.2.2.1))
      (some (.inl ((iadd .i64 s1.1 1), (s1.2.1, (s1.2.2.1, (s1.2.2.2.1, (s1.2.2.2.2.1, ((xset s1.2.2.2.2.2.1 (i2n s1.1) 0), s1.2.2.2.2.2.2)))))))))
      (some (.inr ((s1.2.1, s1.2.2.2.2.2.1), ((s1.2.2.1, s1.2.2.2.2.2.2.1), ((s1.2.2.2.1, s1.2.2.2.2.2.2.2), s1.2.2.2.2.1)))))))
    (0, (x.1.1, (x.2.1.1, (x.2.2.1.1, (x.2.2.2, (x.1.2, (x.2.1.2, x.2.2.1.2))))))))

noncomputable def F_s_l10Zero_b (x : ((Int × (List Int)) × ((Int × (List Int)) × ((Int × (List Int)) × Int)))) : Option ((Int × (List Int)) × ((Int × (List Int)) × ((Int × (List Int)) × Int))) :=
  (iter (σ := (Int × (Int × (Int × (Int × (Int × ((List Int) × ((List Int) × (List Int))))))))) (fun s1 =>
    (cond (ilt s1.1 (n2i (xlen s1.2.2.2.2.2.2.1)))
      (chk (okIx s1.1 (xlen s1.2.2.2.2.2.2.1))
      (some (.inl ((iadd .i64 s1.1 1), (s1.2.1, (s1.2.2.1, (s1.2.2.2.1, (s1.2.2.2.2.1, (s1.2.2.2.2.2.1, ((xset s1.2.2.2.2.2.2.1 (i2n s1.1) 0), s1.2.2.2.2.2.2.2))))))))))
      (some (.inr ((s1.2.1, s1.2.2.2.2.2.1), ((s1.2.2.1, s1.2.2.2.2.2.2.1), ((s1.2.2.2.1, s1.2.2.2.2.2.2.2), s1.2.2.2.2.1)))))))
    (0, (x.1.1, (x.2.1.1, (x.2.2.1.1, (x.2.2.2, (x.1.2, (x.2.1.2, x.2.2.1.2))))))))

noncomputable def F_s_l10Zero_c (x : ((Int × (List Int)) × ((Int × (List Int)) × ((Int × (List Int)) × Int)))) : Option ((Int × (List Int)) × ((Int × (List Int)) × ((Int × (List Int)) × Int))) :=
  (iter (σ := (Int × (Int × (Int × (Int × (Int × ((List Int) × ((List Int) × (List Int))))))))) (fun s1 =>
    (cond (ilt s1.1 (n2i (xlen s1.2.2.2.2.2.2.2)))
      (chk (okIx s1.1 (xlen s1.2.2.2.2.2.2.2))
      (some (.inl ((iadd .i64 s1.1 1), (s1.2.1, (s1.2.2.1, (s1.2.2.2.1, (s1.2.2.2.2.1, (s1.2.2.2.2.2.1, (s1.2.2.2.2.2.2.1, (xset s1.2.2.2.2.2.2.2 (i2n s1.1) 0)))))))))))
      (some (.inr ((s1.2.1, s1.2.2.2.2.2.1), ((s1.2.2.1, s1.2.2.2.2.2.2.1), ((s1.2.2.2.1, s1.2.2.2.2.2.2.2), s1.2.2.2.2.1)))))))
    (0, (x.1.1, (x.2.1.1, (x.2.2.1.1, (x.2.2.2, (x.1.2, (x.2.1.2, x.2.2.1.2))))))))

noncomputable def F_s_l10Do (x : (((Int × (List Int)) × ((Int × (List Int)) × ((Int × (List Int)) × Int))) × Int)) : Option (Bool × ((Int × (List Int)) × ((Int × (List Int)) × ((Int × (List Int)) × Int)))) :=
  (cond (ieq x.2 1)
    (Option.bind (F_s_l10Turn ((x.1.1, (x.1.2.1, (x.1.2.2.1, x.1.2.2.2))), 1)) fun r2 =>
      (some (r2.1, (r2.2.1, (r2.2.2.1, (r2.2.2.2.1, r2.2.2.2.2))))))
    (cond (ieq x.2 2)
      (Option.bind (F_s_l10Turn ((x.1.1, (x.1.2.1, (x.1.2.2.1, x.1.2.2.2))), (-1))) fun r3 =>
        (some (r3.1, (r3.2.1, (r3.2.2.1, (r3.2.2.2.1, r3.2.2.2.2))))))
      (cond (ieq x.2 3)
        (Option.bind (F_s_l10Shift ((x.1.1, (x.1.2.1, (x.1.2.2.1, x.1.2.2.2))), 1)) fun r4 =>
          (some (r4.1, (r4.2.1, (r4.2.2.1, (r4.2.2.2.1, r4.2.2.2.2))))))
        (cond (ieq x.2 4)
          (Option.bind (F_s_l10Shift ((x.1.1, (x.1.2.1, (x.1.2.2.1, x.1.2.2.2))), (-1))) fun r5 =>
            (some (r5.1, (r5.2.1, (r5.2.2.1, (r5.2.2.2.1, r5.2.2.2.2))))))
          (cond (ieq x.2 5)
            (Option.bind (F_s_l10Zero_b (x.1.1, (x.1.2.1, (x.1.2.2.1, x.1.2.2.2)))) fun r6 =>
              (Option.bind (F_s_l10Zero_c (r6.1, (r6.2.1, (r6.2.2.1, r6.2.2.2)))) fun r7 =>
                (some (false, (r7.1, (r7.2.1, (r7.2.2.1, r7.2.2.2)))))))
            (Option.bind (F_s_l10Zero (x.1.1, (x.1.2.1, (x.1.2.2.1, x.1.2.2.2)))) fun r6 =>
              (some (false, (r6.1, (r6.2.1, (r6.2.2.1, r6.2.2.2)))))))))))

noncomputable def F_s_l00Src_next (x : ((List Int) × (Int × Int))) : Option (Int × ((List Int) × (Int × Int))) :=
  (cond (ilt x.2.1 (n2i (xlen x.1)))
    (chk (okIx x.2.1 (xlen x.1))
    (cond (ile (iadd .i64 x.2.1 1) (n2i (xlen x.1)))
      (some ((iwrap .i64 (xget x.1 (i2n x.2.1) 0)), (x.1, ((iadd .i64 x.2.1 1), (iadd .u64 (iadd .u64 (imul .u64 x.2.2 6364136223846793005) (iwrap .u64 (iwrap .i64 (xget x.1 (i2n x.2.1) 0)))) 1442695040888963407)))))
      (chk (okShift .u64 40)
      (some ((iwrap .i64 (ibit .and .u64 (ishr (iadd .u64 (iadd .u64 (imul .u64 x.2.2 6364136223846793005) (iwrap .u64 (iwrap .i64 (xget x.1 (i2n x.2.1) 0)))) 1442695040888963407) 40) 255)), (x.1, ((iadd .i64 x.2.1 1), (iadd .u64 (iadd .u64 (imul .u64 x.2.2 6364136223846793005) (iwrap .u64 (iwrap .i64 (xget x.1 (i2n x.2.1) 0)))) 1442695040888963407))))))))
    (cond (ile (iadd .i64 x.2.1 1) (n2i (xlen x.1)))
      (some (0, (x.1, ((iadd .i64 x.2.1 1), (iadd .u64 (iadd .u64 (imul .u64 x.2.2 6364136223846793005) (iwrap .u64 0)) 1442695040888963407)))))
      (chk (okShift .u64 40)
      (some ((iwrap .i64 (ibit .and .u64 (ishr (iadd .u64 (iadd .u64 (imul .u64 x.2.2 6364136223846793005) (iwrap .u64 0)) 1442695040888963407) 40) 255)), (x.1, ((iadd .i64 x.2.1 1), (iadd .u64 (iadd .u64 (imul .u64 x.2.2 6364136223846793005) (iwrap .u64 0)) 1442695040888963407))))))))

noncomputable def F_s_l00Src_pick (x : (((List Int) × (Int × Int)) × Int)) : Option (Int × ((List Int) × (Int × Int))) :=
  (cond (ile x.2 1)
    (some (0, (x.1.1, x.1.2)))
    (Option.bind (F_s_l00Src_next (x.1.1, x.1.2)) fun r2 =>
      (cond (igt x.2 200)
        (Option.bind (F_s_l00Src_next (r2.2.1, r2.2.2)) fun r4 =>
          (chk (okDiv x.2)
          (some ((irem (iadd .i64 (imul .i64 r2.1 256) r4.1) x.2), (r4.2.1, r4.2.2)))))
        (chk (okDiv x.2)
        (some ((irem r2.1 x.2), (r2.2.1, r2.2.2)))))))

noncomputable def F_s_l00Src_among (x : (((List Int) × (Int × Int)) × (List Int))) : Option (Int × ((List Int) × (Int × Int))) :=
  (Option.bind (F_s_l00Src_pick ((x.1.1, x.1.2), (n2i (xlen x.2)))) fun r1 =>
    (chk (okIx r1.1 (xlen x.2))
    (some ((xget x.2 (i2n r1.1) 0), (r1.2.1, r1.2.2)))))

noncomputable def F_s_l00Src_one (x : (((List Int) × (Int × Int)) × Int)) : Option (Bool × ((List Int) × (Int × Int))) :=
  (Option.bind (F_s_l00Src_pick ((x.1.1, x.1.2), x.2)) fun r1 =>
    (some ((ieq r1.1 0), (r1.2.1, r1.2.2))))

noncomputable def F_s_l02DrawDigits (x : (((List Int) × (Int × Int)) × (Int × Int))) : Option ((List Int) × ((List Int) × (Int × Int))) :=
  (iter (σ := (Int × (Int × (Int × (Int × (Int × ((List Int) × (List Int)))))))) (fun s1 =>
    (cond (ilt s1.2.2.1 s1.2.1)
      (Option.bind (F_s_l00Src_pick ((s1.2.2.2.2.2.1, (s1.2.2.2.1, s1.2.2.2.2.1)), s1.1)) fun r3 =>
        (Option.bind (F_s_l00Src_one ((r3.2.1, r3.2.2), 3)) fun r4 =>
          (cond r4.1
            (chk (okRoom (xlen s1.2.2.2.2.2.2) (xlen ((isub .i64 s1.1 1) :: ([] : (List Int)))) 8)
            (some (.inl (s1.1, (s1.2.1, ((iadd .i64 s1.2.2.1 1), (r4.2.2.1, (r4.2.2.2, (r4.2.1, (xapp s1.2.2.2.2.2.2 ((isub .i64 s1.1 1) :: ([] : (List Int)))))))))))))
            (chk (okRoom (xlen s1.2.2.2.2.2.2) (xlen (r3.1 :: ([] : (List Int)))) 8)
            (some (.inl (s1.1, (s1.2.1, ((iadd .i64 s1.2.2.1 1), (r4.2.2.1, (r4.2.2.2, (r4.2.1, (xapp s1.2.2.2.2.2.2 (r3.1 :: ([] : (List Int))))))))))))))))
      (some (.inr (s1.2.2.2.2.2.2, (s1.2.2.2.2.2.1, (s1.2.2.2.1, s1.2.2.2.2.1)))))))
    (x.2.1, (x.2.2, (0, (x.1.2.1, (x.1.2.2, (x.1.1, ([] : (List Int)))))))))

noncomputable def F_s_l10Draw (x : ((List Int) × (Int × Int))) : Option (((Int × (List Int)) × ((Int × (List Int)) × ((Int × (List Int)) × Int))) × ((List Int) × (Int × Int))) :=
  none

noncomputable def F_s_l00From (x : (List Int)) : Option ((List Int) × (Int × Int)) :=
  (some (x, (0, 0)))

noncomputable def F_s_A2Machine (x : (List Int)) : Option ((Int × (List Int)) × ((Int × (List Int)) × ((Int × (List Int)) × Int))) :=
  (Option.bind (F_s_l00From x) fun r1 =>
    (Option.bind (F_s_l10Draw (r1.1, r1.2)) fun r2 =>
      (some (r2.1.1, (r2.1.2.1, (r2.1.2.2.1, r2.1.2.2.2))))))

noncomputable def F_s_l10Kind (x : Int) : Option Bool :=
  (Option.bind (F_s_l00In (x, (1, 6))) fun r1 =>
    (some r1))

noncomputable def F_s_DoStroke (x : (((Int × (List Int)) × ((Int × (List Int)) × ((Int × (List Int)) × Int))) × Int)) : Option (((Int × (List Int)) × ((Int × (List Int)) × ((Int × (List Int)) × Int))) × (Bool × Int)) :=
  (Option.bind (F_s_l10Ok (x.1.1, (x.1.2.1, (x.1.2.2.1, x.1.2.2.2)))) fun r1 =>
    (cond (bnot r1)
      (some (((0, ([] : (List Int))), ((0, ([] : (List Int))), ((0, ([] : (List Int))), 0))), (false, 1)))
      (Option.bind (F_s_l10Kind x.2) fun r3 =>
        (cond (bnot r3)
          (some (((0, ([] : (List Int))), ((0, ([] : (List Int))), ((0, ([] : (List Int))), 0))), (false, 2)))
          (Option.bind (F_s_l10Own (x.1.1, (x.1.2.1, (x.1.2.2.1, x.1.2.2.2)))) fun r5 =>
            (Option.bind (F_s_l10Do ((r5.1, (r5.2.1, (r5.2.2.1, r5.2.2.2))), x.2)) fun r6 =>
              (some ((r6.2.1, (r6.2.2.1, (r6.2.2.2.1, r6.2.2.2.2))), (r6.1, 0)))))))))

noncomputable def F_l_a2At (x : ((List Int) × (Int × Int))) : Option Int :=
  (cond (ige x.2.1 (n2i (xlen x.1)))
    (some 0)
    (cond (ilt x.2.2 1)
      (some 0)
      (chk (okIx x.2.1 (xlen x.1))
      (chk (okDiv x.2.2)
      (some (irem (iwrap .i64 (xget x.1 (i2n x.2.1) 0)) x.2.2))))))

noncomputable def F_i_isStroke (x : Int) : Option Bool :=
  (Option.bind (F_i_between (x, (1, 6))) fun r1 =>
    (some r1))

noncomputable def F_i_Register_withValue (x : ((Int × (List Int)) × Int)) : Option (Int × (List Int)) :=
  (Option.bind (F_i_Register_width x.1) fun r1 =>
    (Option.bind (F_i_registerOf (x.1.1, (r1, x.2))) fun r2 =>
      (some r2.1)))

noncomputable def F_i_Register_shifted (x : ((Int × (List Int)) × Int)) : Option ((Int × (List Int)) × Bool) :=
  (Option.bind (F_i_Register_values x.1) fun r1 =>
    (Option.bind (F_i_Register_value x.1) fun r2 =>
      (chk (okDiv r1)
      (chk (okDiv r1)
      (Option.bind (F_i_Register_withValue (x.1, (irem (iadd .i64 (irem (iadd .i64 r2 x.2) r1) r1) r1))) fun r3 =>
        (cond (ilt (iadd .i64 r2 x.2) 0)
          (some (r3, true))
          (some (r3, (ige (iadd .i64 r2 x.2) r1)))))))))

noncomputable def F_i_Machine_stroke (x : (((Int × (List Int)) × ((Int × (List Int)) × ((Int × (List Int)) × Int))) × Int)) : Option (((Int × (List Int)) × ((Int × (List Int)) × ((Int × (List Int)) × Int))) × Bool) :=
  (Option.bind (F_i_Machine_copied (x.1.1, (x.1.2.1, (x.1.2.2.1, x.1.2.2.2)))) fun r1 =>
    (Option.bind (F_i_power (x.1.2.1.1, x.1.2.2.2)) fun r2 =>
      (cond (ieq x.2 1)
        (Option.bind (F_i_Register_value x.1.1) fun r4 =>
          (Option.bind (F_i_Register_shifted (x.1.2.1, (imul .i64 r4 r2))) fun r5 =>
            (Option.bind (F_i_Register_shifted (x.1.2.2.1, r2)) fun r6 =>
              (some ((r1.1, (r5.1, (r6.1, r1.2.2.2))), r5.2)))))
        (cond (ieq x.2 2)
          (Option.bind (F_i_Register_value x.1.1) fun r5 =>
            (Option.bind (F_i_Register_shifted (x.1.2.1, (imul .i64 (isub .i64 0 r5) r2))) fun r6 =>
              (Option.bind (F_i_Register_shifted (x.1.2.2.1, (isub .i64 0 r2))) fun r7 =>
                (some ((r1.1, (r6.1, (r7.1, r1.2.2.2))), r6.2)))))
          (cond (ieq x.2 3)
            (Option.bind (F_i_Machine_places (x.1.1, (x.1.2.1, (x.1.2.2.1, x.1.2.2.2)))) fun r6 =>
              (cond (bnot (ieq (iadd .i64 x.1.2.2.2 1) r6))
                (some ((r1.1, (r1.2.1, (r1.2.2.1, (iadd .i64 r1.2.2.2 1)))), (ieq (iadd .i64 x.1.2.2.2 1) r6)))
                (some ((r1.1, (r1.2.1, (r1.2.2.1, r1.2.2.2))), (ieq (iadd .i64 x.1.2.2.2 1) r6)))))
            (cond (ieq x.2 4)
              (cond (bnot (ieq x.1.2.2.2 0))
                (some ((r1.1, (r1.2.1, (r1.2.2.1, (isub .i64 r1.2.2.2 1)))), (ieq x.1.2.2.2 0)))
                (some ((r1.1, (r1.2.1, (r1.2.2.1, r1.2.2.2))), (ieq x.1.2.2.2 0))))
              (cond (ieq x.2 5)
                (Option.bind (F_i_Register_withValue (x.1.2.1, 0)) fun r8 =>
                  (Option.bind (F_i_Register_withValue (x.1.2.2.1, 0)) fun r9 =>
                    (some ((r1.1, (r8, (r9, r1.2.2.2))), false))))
                (cond (ieq x.2 6)
                  (Option.bind (F_i_Register_withValue (x.1.1, 0)) fun r9 =>
                    (some ((r9, (r1.2.1, (r1.2.2.1, r1.2.2.2))), false)))
                  (some ((r1.1, (r1.2.1, (r1.2.2.1, r1.2.2.2))), false))))))))))

noncomputable def F_i_DoStrokes (x : (((Int × (List Int)) × ((Int × (List Int)) × ((Int × (List Int)) × Int))) × (List Int))) : Option (((Int × (List Int)) × ((Int × (List Int)) × ((Int × (List Int)) × Int))) × (Int × Int)) :=
  (Option.bind (F_i_ValidMachine (x.1.1, (x.1.2.1, (x.1.2.2.1, x.1.2.2.2)))) fun r1 =>
    (cond (bnot r1)
      (some (((0, ([] : (List Int))), ((0, ([] : (List Int))), ((0, ([] : (List Int))), 0))), (0, 1)))
      (iter (σ := (Int × (Int × ((List Int) × (Int × (Int × (Int × (Int × ((List Int) × ((List Int) × ((List Int) × (Int × (Int × (Int × (Int × ((List Int) × ((List Int) × (List Int)))))))))))))))))) (fun s3 =>
        (cond (ilt s3.2.1 s3.1)
          (chk (okIx s3.2.1 (xlen s3.2.2.1))
          (Option.bind (F_i_isStroke (xget s3.2.2.1 (i2n s3.2.1) 0)) fun r5 =>
            (cond (bnot r5)
              (some (.inr (((0, ([] : (List Int))), ((0, ([] : (List Int))), ((0, ([] : (List Int))), 0))), (0, 2))))
              (some (.inl (s3.1, ((iadd .i64 s3.2.1 1), (s3.2.2.1, (s3.2.2.2.1, (s3.2.2.2.2.1, (s3.2.2.2.2.2.1, (s3.2.2.2.2.2.2.1, (s3.2.2.2.2.2.2.2.1, (s3.2.2.2.2.2.2.2.2.1, (s3.2.2.2.2.2.2.2.2.2.1, (s3.2.2.2.2.2.2.2.2.2.2.1, (s3.2.2.2.2.2.2.2.2.2.2.2.1, (s3.2.2.2.2.2.2.2.2.2.2.2.2.1, (s3.2.2.2.2.2.2.2.2.2.2.2.2.2.1, (s3.2.2.2.2.2.2.2.2.2.2.2.2.2.2.1, s3.2.2.2.2.2.2.2.2.2.2.2.2.2.2.2))))))))))))))))))))
          (Option.map Sum.inr
            (cond (igt (n2i (xlen s3.2.2.1)) 300)
            (some (((0, ([] : (List Int))), ((0, ([] : (List Int))), ((0, ([] : (List Int))), 0))), (0, 5)))
            (Option.bind (F_i_Machine_copied ((s3.2.2.2.1, s3.2.2.2.2.2.2.2.1), ((s3.2.2.2.2.1, s3.2.2.2.2.2.2.2.2.1), ((s3.2.2.2.2.2.1, s3.2.2.2.2.2.2.2.2.2.1), s3.2.2.2.2.2.2.1)))) fun r6 =>
              (iter (σ := (Int × (Int × ((List Int) × (Int × (Int × (Int × (Int × ((List Int) × ((List Int) × ((List Int) × (Int × (Int × (Int × (Int × ((List Int) × ((List Int) × (List Int)))))))))))))))))) (fun s7 =>
                (cond (ilt s7.2.1 s7.1)
                  (chk (okIx s7.2.1 (xlen s7.2.2.1))
                  (Option.bind (F_i_Machine_stroke (((s7.2.2.2.2.2.2.2.2.2.2.1, s7.2.2.2.2.2.2.2.2.2.2.2.2.2.2.1), ((s7.2.2.2.2.2.2.2.2.2.2.2.1, s7.2.2.2.2.2.2.2.2.2.2.2.2.2.2.2.1), ((s7.2.2.2.2.2.2.2.2.2.2.2.2.1, s7.2.2.2.2.2.2.2.2.2.2.2.2.2.2.2.2), s7.2.2.2.2.2.2.2.2.2.2.2.2.2.1))), (xget s7.2.2.1 (i2n s7.2.1) 0))) fun r9 =>
                    (cond r9.2
                      (some (.inr ((r9.1.1, (r9.1.2.1, (r9.1.2.2.1, r9.1.2.2.2))), ((iadd .i64 s7.2.1 1), 0))))
                      (some (.inl (s7.1, ((iadd .i64 s7.2.1 1), (s7.2.2.1, (s7.2.2.2.1, (s7.2.2.2.2.1, (s7.2.2.2.2.2.1, (s7.2.2.2.2.2.2.1, (s7.2.2.2.2.2.2.2.1, (s7.2.2.2.2.2.2.2.2.1, (s7.2.2.2.2.2.2.2.2.2.1, (r9.1.1.1, (r9.1.2.1.1, (r9.1.2.2.1.1, (r9.1.2.2.2, (r9.1.1.2, (r9.1.2.1.2, r9.1.2.2.1.2)))))))))))))))))))))
                  (some (.inr (((s7.2.2.2.2.2.2.2.2.2.2.1, s7.2.2.2.2.2.2.2.2.2.2.2.2.2.2.1), ((s7.2.2.2.2.2.2.2.2.2.2.2.1, s7.2.2.2.2.2.2.2.2.2.2.2.2.2.2.2.1), ((s7.2.2.2.2.2.2.2.2.2.2.2.2.1, s7.2.2.2.2.2.2.2.2.2.2.2.2.2.2.2.2), s7.2.2.2.2.2.2.2.2.2.2.2.2.2.1))), ((n2i (xlen s7.2.2.1)), 0))))))
                ((n2i (xlen s3.2.2.1)), (0, (s3.2.2.1, (s3.2.2.2.2.2.2.2.2.2.2.1, (s3.2.2.2.2.2.2.2.2.2.2.2.1, (s3.2.2.2.2.2.2.2.2.2.2.2.2.1, (s3.2.2.2.2.2.2.2.2.2.2.2.2.2.1, (s3.2.2.2.2.2.2.2.2.2.2.2.2.2.2.1, (s3.2.2.2.2.2.2.2.2.2.2.2.2.2.2.2.1, (s3.2.2.2.2.2.2.2.2.2.2.2.2.2.2.2.2, (r6.1.1, (r6.2.1.1, (r6.2.2.1.1, (r6.2.2.2, (r6.1.2, (r6.2.1.2, r6.2.2.1.2))))))))))))))))))))))
        ((n2i (xlen x.2)), (0, (x.2, (x.1.1.1, (x.1.2.1.1, (x.1.2.2.1.1, (x.1.2.2.2, (x.1.1.2, (x.1.2.1.2, (x.1.2.2.1.2, (0, (0, (0, (0, (([] : (List Int)), (([] : (List Int)), ([] : (List Int)))))))))))))))))))))

noncomputable def F_s_ValidMachine (x : ((Int × (List Int)) × ((Int × (List Int)) × ((Int × (List Int)) × Int)))) : Option Bool :=
  (Option.bind (F_s_l10Ok (x.1, (x.2.1, (x.2.2.1, x.2.2.2)))) fun r1 =>
    (some r1))

noncomputable def F_l_a2Power (x : (Int × Int)) : Option Int :=
  (iter (σ := (Int × (Int × Int))) (fun s1 =>
    (cond (igt s1.2.1 0)
      (some (.inl (s1.1, ((isub .i64 s1.2.1 1), (imul .i64 s1.2.2 s1.1)))))
      (some (.inr s1.2.2))))
    (x.1, (x.2, 1)))

noncomputable def F_s_l00Same (x : ((List Int) × (List Int))) : Option Bool :=
  (cond (ine (n2i (xlen x.1)) (n2i (xlen x.2)))
    (some false)
    (iter (σ := (Int × ((List Int) × (List Int)))) (fun s2 =>
      (cond (ilt s2.1 (n2i (xlen s2.2.1)))
        (chk (okIx s2.1 (xlen s2.2.1))
        (chk (okIx s2.1 (xlen s2.2.2))
        (cond (ine (xget s2.2.1 (i2n s2.1) 0) (xget s2.2.2 (i2n s2.1) 0))
          (some (.inr false))
          (some (.inl ((iadd .i64 s2.1 1), s2.2))))))
        (some (.inr true))))
      (0, x)))

noncomputable def F_s_l02Same (x : ((Int × (List Int)) × (Int × (List Int)))) : Option Bool :=
  (cond (ieq x.1.1 x.2.1)
    (Option.bind (F_s_l00Same (x.1.2, x.2.2)) fun r2 =>
      (some r2))
    (some false))

noncomputable def F_s_l10Same (x : (((Int × (List Int)) × ((Int × (List Int)) × ((Int × (List Int)) × Int))) × ((Int × (List Int)) × ((Int × (List Int)) × ((Int × (List Int)) × Int))))) : Option Bool :=
  (Option.bind (F_s_l02Same (x.1.1, x.2.1)) fun r1 =>
    (cond r1
      (Option.bind (F_s_l02Same (x.1.2.1, x.2.2.1)) fun r3 =>
        (cond r3
          (Option.bind (F_s_l02Same (x.1.2.2.1, x.2.2.2.1)) fun r5 =>
            (cond r5
              (some (ieq x.1.2.2.2 x.2.2.2.2))
              (some false)))
          (some false)))
      (some false)))

noncomputable def F_s_SameMachine (x : (((Int × (List Int)) × ((Int × (List Int)) × ((Int × (List Int)) × Int))) × ((Int × (List Int)) × ((Int × (List Int)) × ((Int × (List Int)) × Int))))) : Option Bool :=
  (Option.bind (F_s_l10Same ((x.1.1, (x.1.2.1, (x.1.2.2.1, x.1.2.2.2))), (x.2.1, (x.2.2.1, (x.2.2.2.1, x.2.2.2.2))))) fun r1 =>
    (some r1))

noncomputable def F_s_ValueOf (x : (Int × (List Int))) : Option (Int × Int) :=
  (Option.bind (F_s_l02Ok x) fun r1 =>
    (cond (bnot r1)
      (some (0, 1))
      (Option.bind (F_s_l02Value x) fun r3 =>
        (some (r3, 0)))))

noncomputable def F_i_DoStroke (x : (((Int × (List Int)) × ((Int × (List Int)) × ((Int × (List Int)) × Int))) × Int)) : Option (((Int × (List Int)) × ((Int × (List Int)) × ((Int × (List Int)) × Int))) × (Bool × Int)) :=
  (Option.bind (F_i_ValidMachine (x.1.1, (x.1.2.1, (x.1.2.2.1, x.1.2.2.2)))) fun r1 =>
    (cond (bnot r1)
      (some (((0, ([] : (List Int))), ((0, ([] : (List Int))), ((0, ([] : (List Int))), 0))), (false, 1)))
      (Option.bind (F_i_isStroke x.2) fun r3 =>
        (cond (bnot r3)
          (some (((0, ([] : (List Int))), ((0, ([] : (List Int))), ((0, ([] : (List Int))), 0))), (false, 2)))
          (Option.bind (F_i_Machine_stroke ((x.1.1, (x.1.2.1, (x.1.2.2.1, x.1.2.2.2))), x.2)) fun r5 =>
            (some ((r5.1.1, (r5.1.2.1, (r5.1.2.2.1, r5.1.2.2.2))), (r5.2, 0))))))))

noncomputable def F_l_FnExactDoStroke (x : (((Int × (List Int)) × ((Int × (List Int)) × ((Int × (List Int)) × Int))) × Int)) : Option Bool :=
  (Option.bind (F_l_szMachine ((x.1.1, (x.1.2.1, (x.1.2.2.1, x.1.2.2.2))), 1048576)) fun r1 =>
    (cond (ilt r1 0)
      (some true)
      (Option.bind (F_l_toMachine (x.1.1, (x.1.2.1, (x.1.2.2.1, x.1.2.2.2)))) fun r3 =>
        (Option.bind (F_s_DoStroke ((r3.1, (r3.2.1, (r3.2.2.1, r3.2.2.2))), x.2)) fun r4 =>
          (Option.bind (F_l_toMachine (x.1.1, (x.1.2.1, (x.1.2.2.1, x.1.2.2.2)))) fun r5 =>
            (Option.bind (F_i_DoStroke ((r5.1, (r5.2.1, (r5.2.2.1, r5.2.2.2))), x.2)) fun r6 =>
              (Option.bind (F_l_eqMachine ((r6.1.1, (r6.1.2.1, (r6.1.2.2.1, r6.1.2.2.2))), (r4.1.1, (r4.1.2.1, (r4.1.2.2.1, r4.1.2.2.2))))) fun r7 =>
                (cond (bnot r7)
                  (some false)
                  (cond (bnev r6.2.1 r4.2.1)
                    (some false)
                    (cond (ine r6.2.2 r4.2.2)
                      (some false)
                      (Option.bind (F_l_toMachine (x.1.1, (x.1.2.1, (x.1.2.2.1, x.1.2.2.2)))) fun r11 =>
                        (Option.bind (F_l_eqMachine ((r5.1, (r5.2.1, (r5.2.2.1, r5.2.2.2))), (r11.1, (r11.2.1, (r11.2.2.1, r11.2.2.2))))) fun r12 =>
                          (cond (bnot r12)
                            (some false)
                            (Option.bind (F_l_markMachine ((r5.1, (r5.2.1, (r5.2.2.1, r5.2.2.2))), 1)) fun r14 =>
                              (cond (ilt r14.1 0)
                                (some false)
                                (Option.bind (F_l_eqMachine ((r6.1.1, (r6.1.2.1, (r6.1.2.2.1, r6.1.2.2.2))), (r4.1.1, (r4.1.2.1, (r4.1.2.2.1, r4.1.2.2.2))))) fun r16 =>
                                  (cond (bnot r16)
                                    (some false)
                                    (cond (bnev r6.2.1 r4.2.1)
                                      (some false)
                                      (cond (ine r6.2.2 r4.2.2)
                                        (some false)
                                        (Option.bind (F_l_markMachine ((r6.1.1, (r6.1.2.1, (r6.1.2.2.1, r6.1.2.2.2))), 1)) fun r20 =>
                                          (Option.bind (F_l_heldMachine (((r6.1.1.1, r20.2.1.2), ((r6.1.2.1.1, r20.2.2.1.2), ((r6.1.2.2.1.1, r20.2.2.2.1.2), r6.1.2.2.2))), 1)) fun r21 =>
                                            (cond (ilt r21 0)
                                              (some false)
                                              (cond (ine r21 r20.1)
                                                (some false)
                                                (Option.bind (F_l_toMachine (x.1.1, (x.1.2.1, (x.1.2.2.1, x.1.2.2.2)))) fun r24 =>
                                                  (Option.bind (F_i_DoStroke ((r24.1, (r24.2.1, (r24.2.2.1, r24.2.2.2))), x.2)) fun r25 =>
                                                    (Option.bind (F_l_eqMachine ((r25.1.1, (r25.1.2.1, (r25.1.2.2.1, r25.1.2.2.2))), (r4.1.1, (r4.1.2.1, (r4.1.2.2.1, r4.1.2.2.2))))) fun r26 =>
                                                      (cond (bnot r26)
                                                        (some false)
                                                        (cond (bnev r25.2.1 r4.2.1)
                                                          (some false)
                                                          (cond (ine r25.2.2 r4.2.2)
                                                            (some false)
                                                            (Option.bind (F_l_heldMachine (((r6.1.1.1, r20.2.1.2), ((r6.1.2.1.1, r20.2.2.1.2), ((r6.1.2.2.1.1, r20.2.2.2.1.2), r6.1.2.2.2))), 1)) fun r30 =>
                                                              (cond (ilt r30 0)
                                                                (some false)
                                                                (cond (ine r30 r20.1)
                                                                  (some false)
                                                                  (some true)))))))))))))))))))))))))))))))))

noncomputable def F_s_l10Run (x : (((Int × (List Int)) × ((Int × (List Int)) × ((Int × (List Int)) × Int))) × (List Int))) : Option (Int × ((Int × (List Int)) × ((Int × (List Int)) × ((Int × (List Int)) × Int)))) :=
  (iter (σ := (Int × (Int × (Int × (Int × (Int × ((List Int) × ((List Int) × ((List Int) × (List Int)))))))))) (fun s1 =>
    (cond (ilt s1.1 (n2i (xlen s1.2.2.2.2.2.2.2.2)))
      (chk (okIx s1.1 (xlen s1.2.2.2.2.2.2.2.2))
      (Option.bind (F_s_l10Do (((s1.2.1, s1.2.2.2.2.2.1), ((s1.2.2.1, s1.2.2.2.2.2.2.1), ((s1.2.2.2.1, s1.2.2.2.2.2.2.2.1), s1.2.2.2.2.1))), (xget s1.2.2.2.2.2.2.2.2 (i2n s1.1) 0))) fun r3 =>
        (cond r3.1
          (some (.inr ((iadd .i64 s1.1 1), (r3.2.1, (r3.2.2.1, (r3.2.2.2.1, r3.2.2.2.2))))))
          (some (.inl ((iadd .i64 s1.1 1), (r3.2.1.1, (r3.2.2.1.1, (r3.2.2.2.1.1, (r3.2.2.2.2, (r3.2.1.2, (r3.2.2.1.2, (r3.2.2.2.1.2, s1.2.2.2.2.2.2.2.2)))))))))))))
      (some (.inr ((n2i (xlen s1.2.2.2.2.2.2.2.2)), ((s1.2.1, s1.2.2.2.2.2.1), ((s1.2.2.1, s1.2.2.2.2.2.2.1), ((s1.2.2.2.1, s1.2.2.2.2.2.2.2.1), s1.2.2.2.2.1))))))))
    (0, (x.1.1.1, (x.1.2.1.1, (x.1.2.2.1.1, (x.1.2.2.2, (x.1.1.2, (x.1.2.1.2, (x.1.2.2.1.2, x.2)))))))))

noncomputable def F_s_DoStrokes (x : (((Int × (List Int)) × ((Int × (List Int)) × ((Int × (List Int)) × Int))) × (List Int))) : Option (((Int × (List Int)) × ((Int × (List Int)) × ((Int × (List Int)) × Int))) × (Int × Int)) :=
  (Option.bind (F_s_l10Ok (x.1.1, (x.1.2.1, (x.1.2.2.1, x.1.2.2.2)))) fun r1 =>
    (cond (bnot r1)
      (some (((0, ([] : (List Int))), ((0, ([] : (List Int))), ((0, ([] : (List Int))), 0))), (0, 1)))
      (iter (σ := (Int × ((List Int) × (Int × (Int × (Int × (Int × ((List Int) × ((List Int) × ((List Int) × (Int × (Int × (Int × (Int × ((List Int) × ((List Int) × (List Int))))))))))))))))) (fun s3 =>
        (cond (ilt s3.1 (n2i (xlen s3.2.1)))
          (chk (okIx s3.1 (xlen s3.2.1))
          (Option.bind (F_s_l10Kind (xget s3.2.1 (i2n s3.1) 0)) fun r5 =>
            (cond (bnot r5)
              (some (.inr (((0, ([] : (List Int))), ((0, ([] : (List Int))), ((0, ([] : (List Int))), 0))), (0, 2))))
              (some (.inl ((iadd .i64 s3.1 1), (s3.2.1, (s3.2.2.1, (s3.2.2.2.1, (s3.2.2.2.2.1, (s3.2.2.2.2.2.1, (s3.2.2.2.2.2.2.1, (s3.2.2.2.2.2.2.2.1, (s3.2.2.2.2.2.2.2.2.1, (s3.2.2.2.2.2.2.2.2.2.1, (s3.2.2.2.2.2.2.2.2.2.2.1, (s3.2.2.2.2.2.2.2.2.2.2.2.1, (s3.2.2.2.2.2.2.2.2.2.2.2.2.1, (s3.2.2.2.2.2.2.2.2.2.2.2.2.2.1, s3.2.2.2.2.2.2.2.2.2.2.2.2.2.2)))))))))))))))))))
          (Option.map Sum.inr
            (cond (igt (n2i (xlen s3.2.1)) 300)
            (some (((0, ([] : (List Int))), ((0, ([] : (List Int))), ((0, ([] : (List Int))), 0))), (0, 5)))
            (Option.bind (F_s_l10Own ((s3.2.2.1, s3.2.2.2.2.2.2.1), ((s3.2.2.2.1, s3.2.2.2.2.2.2.2.1), ((s3.2.2.2.2.1, s3.2.2.2.2.2.2.2.2.1), s3.2.2.2.2.2.1)))) fun r6 =>
              (Option.bind (F_s_l10Run ((r6.1, (r6.2.1, (r6.2.2.1, r6.2.2.2))), s3.2.1)) fun r7 =>
                (some ((r7.2.1, (r7.2.2.1, (r7.2.2.2.1, r7.2.2.2.2))), (r7.1, 0)))))))))
        (0, (x.2, (x.1.1.1, (x.1.2.1.1, (x.1.2.2.1.1, (x.1.2.2.2, (x.1.1.2, (x.1.2.1.2, (x.1.2.2.1.2, (0, (0, (0, (0, (([] : (List Int)), (([] : (List Int)), ([] : (List Int))))))))))))))))))))

noncomputable def F_l_FnExactDoStrokes (x : (((Int × (List Int)) × ((Int × (List Int)) × ((Int × (List Int)) × Int))) × (List Int))) : Option Bool :=
  (cond (igt (n2i (xlen x.2)) 1048576)
    (some true)
    (Option.bind (F_l_szMachine ((x.1.1, (x.1.2.1, (x.1.2.2.1, x.1.2.2.2))), 1048576)) fun r2 =>
      (cond (ilt r2 0)
        (some true)
        (Option.bind (F_l_toMachine (x.1.1, (x.1.2.1, (x.1.2.2.1, x.1.2.2.2)))) fun r4 =>
          (Option.bind (F_l_toInt64S x.2) fun r5 =>
            (Option.bind (F_s_DoStrokes ((r4.1, (r4.2.1, (r4.2.2.1, r4.2.2.2))), r5)) fun r6 =>
              (Option.bind (F_l_toMachine (x.1.1, (x.1.2.1, (x.1.2.2.1, x.1.2.2.2)))) fun r7 =>
                (Option.bind (F_l_toInt64S x.2) fun r8 =>
                  (Option.bind (F_i_DoStrokes ((r7.1, (r7.2.1, (r7.2.2.1, r7.2.2.2))), r8)) fun r9 =>
                    (Option.bind (F_l_eqMachine ((r9.1.1, (r9.1.2.1, (r9.1.2.2.1, r9.1.2.2.2))), (r6.1.1, (r6.1.2.1, (r6.1.2.2.1, r6.1.2.2.2))))) fun r10 =>
                      (cond (bnot r10)
                        (some false)
                        (cond (ine r9.2.1 r6.2.1)
                          (some false)
                          (cond (ine r9.2.2 r6.2.2)
                            (some false)
                            (Option.bind (F_l_toMachine (x.1.1, (x.1.2.1, (x.1.2.2.1, x.1.2.2.2)))) fun r14 =>
                              (Option.bind (F_l_eqMachine ((r7.1, (r7.2.1, (r7.2.2.1, r7.2.2.2))), (r14.1, (r14.2.1, (r14.2.2.1, r14.2.2.2))))) fun r15 =>
                                (cond (bnot r15)
                                  (some false)
                                  (Option.bind (F_l_toInt64S x.2) fun r17 =>
                                    (Option.bind (F_l_eqInt64S (r8, r17)) fun r18 =>
                                      (cond (bnot r18)
                                        (some false)
                                        (Option.bind (F_l_markMachine ((r7.1, (r7.2.1, (r7.2.2.1, r7.2.2.2))), 1)) fun r20 =>
                                          (Option.bind (F_l_markInt64S (r8, r20.1)) fun r21 =>
                                            (cond (ilt r21.1 0)
                                              (some false)
                                              (Option.bind (F_l_eqMachine ((r9.1.1, (r9.1.2.1, (r9.1.2.2.1, r9.1.2.2.2))), (r6.1.1, (r6.1.2.1, (r6.1.2.2.1, r6.1.2.2.2))))) fun r23 =>
                                                (cond (bnot r23)
                                                  (some false)
                                                  (cond (ine r9.2.1 r6.2.1)
                                                    (some false)
                                                    (cond (ine r9.2.2 r6.2.2)
                                                      (some false)
                                                      (Option.bind (F_l_markMachine ((r9.1.1, (r9.1.2.1, (r9.1.2.2.1, r9.1.2.2.2))), 1)) fun r27 =>
                                                        (Option.bind (F_l_heldMachine (((r9.1.1.1, r27.2.1.2), ((r9.1.2.1.1, r27.2.2.1.2), ((r9.1.2.2.1.1, r27.2.2.2.1.2), r9.1.2.2.2))), 1)) fun r28 =>
                                                          (cond (ilt r28 0)
                                                            (some false)
                                                            (cond (ine r28 r27.1)
                                                              (some false)
                                                              (Option.bind (F_l_toMachine (x.1.1, (x.1.2.1, (x.1.2.2.1, x.1.2.2.2)))) fun r31 =>
                                                                (Option.bind (F_l_toInt64S x.2) fun r32 =>
                                                                  (Option.bind (F_i_DoStrokes ((r31.1, (r31.2.1, (r31.2.2.1, r31.2.2.2))), r32)) fun r33 =>
                                                                    (Option.bind (F_l_eqMachine ((r33.1.1, (r33.1.2.1, (r33.1.2.2.1, r33.1.2.2.2))), (r6.1.1, (r6.1.2.1, (r6.1.2.2.1, r6.1.2.2.2))))) fun r34 =>
                                                                      (cond (bnot r34)
                                                                        (some false)
                                                                        (cond (ine r33.2.1 r6.2.1)
                                                                          (some false)
                                                                          (cond (ine r33.2.2 r6.2.2)
                                                                            (some false)
                                                                            (Option.bind (F_l_heldMachine (((r9.1.1.1, r27.2.1.2), ((r9.1.2.1.1, r27.2.2.1.2), ((r9.1.2.2.1.1, r27.2.2.2.1.2), r9.1.2.2.2))), 1)) fun r38 =>
                                                                              (cond (ilt r38 0)
                                                                                (some false)
                                                                                (cond (ine r38 r27.1)
                                                                                  (some false)
                                                                                  (some true)))))))))))))))))))))))))))))))))))))))))

end Go.Prg
