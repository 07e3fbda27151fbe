/- What the functions of the program compute: printed by a program off the engine. Conditions: none. -/
import Derived.Test.YtjkaapoklbhokaaDoorEng25
namespace Go.Prg
open Go.Eng
set_option linter.all false

noncomputable def F_l_szInt64S (x : ((List Int) × Int)) : Option Int :=
  (cond (ilt (isub .i64 x.2 (n2i (xlen x.1))) 0)
    (some (-1))
    (some (isub .i64 x.2 (n2i (xlen x.1)))))

noncomputable def F_l_szRegister (x : ((Int × (List Int)) × Int)) : Option Int :=
  (Option.bind (F_l_szInt64S (x.1.2, x.2)) fun r1 =>
    (cond (ilt r1 0)
      (some (-1))
      (some r1)))

noncomputable def F_s_l00Min (x : (Int × Int)) : Option Int :=
  (cond (ilt x.1 x.2)
    (some x.1)
    (some x.2))

noncomputable def F_s_l02Value (x : (Int × (List Int))) : Option Int :=
  (iter (σ := (Int × (Int × (Int × (List Int))))) (fun s1 =>
    (cond (ige s1.2.2.1 0)
      (chk (okIx s1.2.2.1 (xlen s1.2.2.2))
      (Option.bind (F_s_l00Min (1000000000001, (iadd .i64 (imul .i64 s1.2.1 s1.1) (xget s1.2.2.2 (i2n s1.2.2.1) 0)))) fun r3 =>
        (some (.inl (s1.1, (r3, ((isub .i64 s1.2.2.1 1), s1.2.2.2)))))))
      (some (.inr s1.2.1))))
    (x.1, (0, ((isub .i64 (n2i (xlen x.2)) 1), x.2))))

noncomputable def F_s_l00In (x : (Int × (Int × Int))) : Option Bool :=
  (cond (ige x.1 x.2.1)
    (some (ile x.1 x.2.2))
    (some false))

noncomputable def F_s_l02Base (x : Int) : Option Bool :=
  (Option.bind (F_s_l00In (x, (2, 16))) fun r1 =>
    (some r1))

noncomputable def F_s_l02Digits (x : (Int × (List Int))) : Option Bool :=
  (iter (σ := (Int × (Int × (List Int)))) (fun s1 =>
    (cond (ilt s1.2.1 (n2i (xlen s1.2.2)))
      (chk (okIx s1.2.1 (xlen s1.2.2))
      (Option.bind (F_s_l00In ((xget s1.2.2 (i2n s1.2.1) 0), (0, (isub .i64 s1.1 1)))) fun r3 =>
        (cond (bnot r3)
          (some (.inr false))
          (some (.inl (s1.1, ((iadd .i64 s1.2.1 1), s1.2.2)))))))
      (Option.map Sum.inr
        (Option.bind (F_s_l00In ((n2i (xlen s1.2.2)), (1, 16))) fun r3 =>
        (some r3)))))
    (x.1, (0, x.2)))

noncomputable def F_s_l02Ok (x : (Int × (List Int))) : Option Bool :=
  (Option.bind (F_s_l02Base x.1) fun r1 =>
    (cond r1
      (Option.bind (F_s_l02Digits x) fun r3 =>
        (cond r3
          (Option.bind (F_s_l02Value x) fun r5 =>
            (some (ile r5 1000000000000)))
          (some false)))
      (some false)))

noncomputable def F_s_l10Power (x : (Int × Int)) : Option Int :=
  (iter (σ := (Int × (Int × Int))) (fun s1 =>
    (cond (igt s1.2.1 0)
      (Option.bind (F_s_l00Min (1000000000002, (imul .i64 s1.2.2 s1.1))) fun r3 =>
        (some (.inl (s1.1, ((isub .i64 s1.2.1 1), r3)))))
      (some (.inr s1.2.2))))
    (x.1, (x.2, 1)))

noncomputable def F_s_l10Full (x : (Int × Int)) : Option Bool :=
  (Option.bind (F_s_l10Power x) fun r1 =>
    (some (ile (isub .i64 r1 1) 1000000000000)))

noncomputable def F_s_l09Ok (x : (Int × (List Int))) : Option Bool :=
  (Option.bind (F_s_l02Ok x) fun r1 =>
    (cond r1
      (Option.bind (F_s_l10Full (x.1, (n2i (xlen x.2)))) fun r3 =>
        (some r3))
      (some false)))

noncomputable def F_s_l09Low (x : (Int × Int)) : Option Int :=
  (Option.bind (F_s_l10Power x) fun r1 =>
    (chk (okDiv 2)
    (some (iquo .i64 r1 2))))

noncomputable def F_s_l09In (x : (Int × (Int × Int))) : Option Bool :=
  (Option.bind (F_s_l09Low (x.1, x.2.1)) fun r1 =>
    (Option.bind (F_s_l10Power (x.1, x.2.1)) fun r2 =>
      (Option.bind (F_s_l00In (x.2.2, ((isub .i64 0 r1), (isub .i64 (isub .i64 r2 1) r1)))) fun r3 =>
        (some r3))))

noncomputable def F_s_l09Number (x : (Int × (List Int))) : Option Int :=
  (Option.bind (F_s_l02Value x) fun r1 =>
    (Option.bind (F_s_l09In (x.1, ((n2i (xlen x.2)), r1))) fun r2 =>
      (cond (bnot r2)
        (Option.bind (F_s_l10Power (x.1, (n2i (xlen x.2)))) fun r4 =>
          (some (isub .i64 r1 r4)))
        (some r1))))

noncomputable def F_s_l01Dec (x : Int) : Option ByteArray :=
  (iter (σ := (Int × (Int × (List Int)))) (fun s1 =>
    (cond (ine s1.2.1 0)
      (chk (okDiv 10)
      (cond (ilt (irem s1.2.1 10) 0)
        (chk (okRoom (xlen ((iwrap .u8 (iadd .i64 48 (isub .i64 0 (irem s1.2.1 10)))) :: ([] : (List Int)))) (xlen s1.2.2) 1)
        (chk (okDiv 10)
        (some (.inl (s1.1, ((iquo .i64 s1.2.1 10), (xapp ((iwrap .u8 (iadd .i64 48 (isub .i64 0 (irem s1.2.1 10)))) :: ([] : (List Int))) s1.2.2)))))))
        (chk (okRoom (xlen ((iwrap .u8 (iadd .i64 48 (irem s1.2.1 10))) :: ([] : (List Int)))) (xlen s1.2.2) 1)
        (chk (okDiv 10)
        (some (.inl (s1.1, ((iquo .i64 s1.2.1 10), (xapp ((iwrap .u8 (iadd .i64 48 (irem s1.2.1 10))) :: ([] : (List Int))) s1.2.2)))))))))
      (Option.map Sum.inr
        (cond (ieq (n2i (xlen s1.2.2)) 0)
        (some (ByteArray.mk #[48]))
        (cond (ilt s1.1 0)
          (chk (okCat (slen (ByteArray.mk #[45])) (slen (b2s s1.2.2)))
          (some (sadd (ByteArray.mk #[45]) (b2s s1.2.2))))
          (some (b2s s1.2.2)))))))
    (x, (x, ([] : (List Int)))))

noncomputable def F_s_AccumulatorText (x : (Int × (List Int))) : Option ByteArray :=
  (Option.bind (F_s_l09Ok x) fun r1 =>
    (cond (bnot r1)
      (some (ByteArray.mk #[]))
      (Option.bind (F_s_l09Number x) fun r3 =>
        (cond (ilt r3 0)
          (Option.bind (F_s_l01Dec r3) fun r5 =>
            (some r5))
          (Option.bind (F_s_l01Dec r3) fun r5 =>
            (chk (okCat (slen (ByteArray.mk #[43])) (slen r5))
            (some (sadd (ByteArray.mk #[43]) r5))))))))

noncomputable def F_l_toInt64S (x : (List Int)) : Option (List Int) :=
  (chk (ieq (n2i (xlen x)) (n2i (xlen x)))
  (chk (okMake (n2i (xlen x)) 8)
  (iter (σ := (Int × ((List Int) × (List Int)))) (fun s1 =>
    (cond (ilt s1.1 (n2i (xlen s1.2.1)))
      (chk (okIx s1.1 (xlen s1.2.1))
      (chk (okIx s1.1 (xlen s1.2.2))
      (some (.inl ((iadd .i64 s1.1 1), (s1.2.1, (xset s1.2.2 (i2n s1.1) (xget s1.2.1 (i2n s1.1) 0))))))))
      (some (.inr s1.2.2))))
    (0, (x, (xrep (i2n (n2i (xlen x))) 0))))))

noncomputable def F_l_toRegister (x : (Int × (List Int))) : Option (Int × (List Int)) :=
  (Option.bind (F_l_toInt64S x.2) fun r1 =>
    (some (x.1, r1)))

noncomputable def F_i_Register_value (x : (Int × (List Int))) : Option Int :=
  (iter (σ := (Int × (Int × (Int × (List Int))))) (fun s1 =>
    (cond (ige s1.2.1 0)
      (chk (okIx s1.2.1 (xlen s1.2.2.2))
      (cond (igt (iadd .i64 (imul .i64 s1.1 s1.2.2.1) (xget s1.2.2.2 (i2n s1.2.1) 0)) 1000000000000)
        (some (.inr 1000000000001))
        (some (.inl ((iadd .i64 (imul .i64 s1.1 s1.2.2.1) (xget s1.2.2.2 (i2n s1.2.1) 0)), ((isub .i64 s1.2.1 1), s1.2.2))))))
      (some (.inr s1.1))))
    (0, ((isub .i64 (n2i (xlen x.2)) 1), x)))

noncomputable def F_i_between (x : (Int × (Int × Int))) : Option Bool :=
  (cond (ige x.1 x.2.1)
    (some (ile x.1 x.2.2))
    (some false))

noncomputable def F_i_isBase (x : Int) : Option Bool :=
  (Option.bind (F_i_between (x, (2, 16))) fun r1 =>
    (some r1))

noncomputable def F_i_isRegisterWidth (x : Int) : Option Bool :=
  (Option.bind (F_i_between (x, (1, 16))) fun r1 =>
    (some r1))

noncomputable def F_i_ValidRegister (x : (Int × (List Int))) : Option Bool :=
  (Option.bind (F_i_isBase x.1) fun r1 =>
    (cond (bnot r1)
      (some false)
      (Option.bind (F_i_isRegisterWidth (n2i (xlen x.2))) fun r3 =>
        (cond (bnot r3)
          (some false)
          (iter (σ := (Int × (Int × (Int × (List Int))))) (fun s5 =>
            (cond (ilt s5.2.1 s5.1)
              (chk (okIx s5.2.1 (xlen s5.2.2.2))
              (Option.bind (F_i_between ((xget s5.2.2.2 (i2n s5.2.1) 0), (0, (isub .i64 s5.2.2.1 1)))) fun r7 =>
                (cond (bnot r7)
                  (some (.inr false))
                  (some (.inl (s5.1, ((iadd .i64 s5.2.1 1), s5.2.2)))))))
              (Option.map Sum.inr
                (Option.bind (F_i_Register_value s5.2.2) fun r7 =>
                (some (ile r7 1000000000000))))))
            ((n2i (xlen x.2)), (0, x)))))))

noncomputable def F_i_power (x : (Int × Int)) : Option Int :=
  (iter (σ := (Int × (Int × (Int × Int)))) (fun s1 =>
    (cond (ilt s1.2.2.2 s1.2.2.1)
      (cond (igt (isub .i64 (imul .i64 s1.2.1 s1.1) 1) 1000000000000)
        (some (.inr 0))
        (some (.inl (s1.1, ((imul .i64 s1.2.1 s1.1), (s1.2.2.1, (iadd .i64 s1.2.2.2 1)))))))
      (some (.inr s1.2.1))))
    (x.1, (1, (x.2, 0))))

noncomputable def F_i_numbersOf (x : (Int × Int)) : Option Int :=
  (Option.bind (F_i_isBase x.1) fun r1 =>
    (cond (bnot r1)
      (some 0)
      (Option.bind (F_i_isRegisterWidth x.2) fun r3 =>
        (cond (bnot r3)
          (some 0)
          (Option.bind (F_i_power x) fun r5 =>
            (some r5))))))

noncomputable def F_i_Register_width (x : (Int × (List Int))) : Option Int :=
  (some (n2i (xlen x.2)))

noncomputable def F_i_Register_size (x : (Int × (List Int))) : Option Int :=
  (Option.bind (F_i_ValidRegister x) fun r1 =>
    (cond (bnot r1)
      (some 0)
      (Option.bind (F_i_Register_width x) fun r3 =>
        (Option.bind (F_i_numbersOf (x.1, r3)) fun r4 =>
          (some r4)))))

noncomputable def F_i_Register_number (x : (Int × (List Int))) : Option Int :=
  (Option.bind (F_i_Register_size x) fun r1 =>
    (Option.bind (F_i_Register_value x) fun r2 =>
      (chk (okDiv 2)
      (cond (ile r2 (isub .i64 (isub .i64 r1 1) (iquo .i64 r1 2)))
        (some r2)
        (some (isub .i64 r2 r1))))))

noncomputable def F_internal_strconv_FormatInt (x : (Int × Int)) : Option ByteArray :=
  (cond (ieq x.2 10)
    (chk (decide (-9223372036854775808 ≤ x.1 ∧ x.1 ≤ 9223372036854775807))
    (some ⟨(Go.Lib.itoa x.1).toArray⟩))
    none)

noncomputable def F_strconv_FormatInt (x : (Int × Int)) : Option ByteArray :=
  (Option.bind (F_internal_strconv_FormatInt x) fun r1 =>
    (some r1))

noncomputable def F_i_Decimal (x : Int) : Option ByteArray :=
  (Option.bind (F_strconv_FormatInt (x, 10)) fun r1 =>
    (some r1))

noncomputable def F_i_AccumulatorText (x : (Int × (List Int))) : Option ByteArray :=
  (Option.bind (F_i_Register_size x) fun r1 =>
    (cond (ieq r1 0)
      (some (ByteArray.mk #[]))
      (Option.bind (F_i_Register_number x) fun r3 =>
        (cond (ilt r3 0)
          (Option.bind (F_i_Decimal r3) fun r5 =>
            (some r5))
          (Option.bind (F_i_Register_number x) fun r5 =>
            (Option.bind (F_i_Decimal r5) fun r6 =>
              (chk (okCat (slen (ByteArray.mk #[43])) (slen r6))
              (some (sadd (ByteArray.mk #[43]) r6)))))))))

noncomputable def F_l_eqInt64S (x : ((List Int) × (List Int))) : Option Bool :=
  (cond (ine (n2i (xlen x.1)) (n2i (xlen x.2)))
    (some false)
    (iter (σ := (Int × ((List Int) × (List Int)))) (fun s2 =>
      (cond (ilt s2.1 (n2i (xlen s2.2.1)))
        (chk (okIx s2.1 (xlen s2.2.1))
        (chk (okIx s2.1 (xlen s2.2.2))
        (cond (ine (xget s2.2.1 (i2n s2.1) 0) (xget s2.2.2 (i2n s2.1) 0))
          (some (.inr false))
          (some (.inl ((iadd .i64 s2.1 1), s2.2))))))
        (some (.inr true))))
      (0, x)))

noncomputable def F_l_eqRegister (x : ((Int × (List Int)) × (Int × (List Int)))) : Option Bool :=
  (cond (ine x.1.1 x.2.1)
    (some false)
    (Option.bind (F_l_eqInt64S (x.1.2, x.2.2)) fun r2 =>
      (cond (bnot r2)
        (some false)
        (some true))))

noncomputable def F_l_FnExactAccumulatorText (x : (Int × (List Int))) : Option Bool :=
  (Option.bind (F_l_szRegister (x, 1048576)) fun r1 =>
    (cond (ilt r1 0)
      (some true)
      (Option.bind (F_l_toRegister x) fun r3 =>
        (Option.bind (F_s_AccumulatorText r3) fun r4 =>
          (Option.bind (F_l_toRegister x) fun r5 =>
            (Option.bind (F_i_AccumulatorText r5) fun r6 =>
              (cond (sne r6 r4)
                (some false)
                (Option.bind (F_l_toRegister x) fun r8 =>
                  (Option.bind (F_l_eqRegister (r5, r8)) fun r9 =>
                    (cond (bnot r9)
                      (some false)
                      (some true)))))))))))

end Go.Prg
