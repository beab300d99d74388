/- The functions' resolved code, by the tool Gen. -/
import Derived.Test.YtgmfnndoaljdbaaGreatDoorAxV
import Derived.Test.YtgmfnndoaljdbaaGreatDoorProg
set_option linter.all false
namespace Go.Proofs
open Go Go.Ax
set_option maxRecDepth 100000
/- excise/exciselaw09.PolicyChecks -/
noncomputable def lc3 : LCode :=
  .seq (
   .region [
     ⟨(some 3), none, .op (.new 27 (.t 0))⟩,
     ⟨(some 4), none, .op (.new 29 (.t 1))⟩,
     ⟨(some 6), none, .op (.mov (.c (.bool false)))⟩]) (
   .seq (
    .seq (
     .region [
       ⟨(some 11), none, .op (.loadN 3 (.t 3))⟩,
       ⟨(some 12), none, .call 10 [(.t 11), (.c (.int .i64 20))]⟩,
       ⟨(some 13), none, .op (.un .not (.t 12))⟩]) (
     .cond (.t 13) (
      .seq (
       .region [
         ⟨(some 14), none, .call 11 []⟩,
         ⟨(some 6), none, .op (.mov (.t 14))⟩]) (
       .ret)) (
      .skip))) (
    .seq (
     .region [
       ⟨(some 16), none, .op (.loadN 3 (.t 3))⟩,
       ⟨(some 17), none, .op (.loadN 20 (.t 4))⟩,
       ⟨(some 18), none, .op (.mov (.t 2))⟩,
       ⟨(some 19), none, .call 12 [(.t 16), (.t 17), (.t 18)]⟩,
       ⟨(some 15), none, .op (.mov (.t 19))⟩,
       ⟨(some 20), none, .op (.ext 0 (.t 15))⟩,
       ⟨(some 21), none, .op (.ext 1 (.t 15))⟩,
       ⟨(some 7), none, .op (.mov (.t 20))⟩,
       ⟨(some 8), none, .op (.mov (.t 21))⟩]) (
     .seq (
      .region [
        ⟨(some 23), none, .op (.loadN 3 (.t 3))⟩,
        ⟨(some 24), none, .op (.loadN 20 (.t 4))⟩,
        ⟨(some 25), none, .op (.mov (.t 2))⟩,
        ⟨(some 26), none, .call 13 [(.t 23), (.t 24), (.t 25)]⟩,
        ⟨(some 22), none, .op (.mov (.t 26))⟩,
        ⟨(some 27), none, .op (.ext 0 (.t 22))⟩,
        ⟨(some 28), none, .op (.ext 1 (.t 22))⟩,
        ⟨(some 9), none, .op (.mov (.t 27))⟩,
        ⟨(some 10), none, .op (.mov (.t 28))⟩]) (
      .seq (
       .regionD [29, 30, 31, 32, 33, 34, 35, 36, 37, 38, 39, 40, 41, 42, 43, 44, 45, 46, 47, 48, 49, 50, 51, 52, 53, 54, 55, 56, 6] (
         .load 0 ⟨(some 29), none, .op (.loadN 3 (.t 3))⟩ <|
         .load 3 ⟨(some 32), none, .op (.loadN 3 (.t 3))⟩ <|
         .eff [0] ⟨(some 30), none, .call 15 [(.t 29)]⟩ <|
         .eff [0] ⟨(some 31), none, .call 14 [(.t 30)]⟩ <|
         .eff [0, 3] ⟨(some 33), none, .call 16 [(.t 32)]⟩ <|
         .free ⟨(some 34), none, .op (.arith .eql (.t 31) (.t 33))⟩ <|
         .free ⟨(some 35), none, .op (.mov (.t 34))⟩ <|
         .load 7 ⟨(some 36), (some (35, true)), .op (.loadN 3 (.t 3))⟩ <|
         .load 8 ⟨(some 37), (some (35, true)), .op (.loadN 20 (.t 4))⟩ <|
         .load 10 ⟨(some 39), (some (35, true)), .op (.loadN 3 (.t 3))⟩ <|
         .load 11 ⟨(some 40), (some (35, true)), .op (.loadN 20 (.t 4))⟩ <|
         .eff [8, 0, 3, 7] ⟨(some 38), (some (35, true)), .call 17 [(.t 36), (.t 37)]⟩ <|
         .eff [7, 8, 11, 0, 3, 10] ⟨(some 41), (some (35, true)), .call 18 [(.t 39), (.t 40)]⟩ <|
         .free ⟨(some 42), (some (35, true)), .op (.arith .eql (.t 38) (.t 41))⟩ <|
         .free ⟨(some 43), none, .op (.pick (.t 35) (.t 42) (.c (.bool false)))⟩ <|
         .free ⟨(some 44), none, .op (.mov (.t 43))⟩ <|
         .free ⟨(some 45), (some (44, true)), .op (.mov (.t 7))⟩ <|
         .free ⟨(some 46), (some (44, true)), .op (.mov (.t 9))⟩ <|
         .free ⟨(some 47), (some (44, true)), .op (.arith .eql (.t 45) (.t 46))⟩ <|
         .free ⟨(some 48), none, .op (.pick (.t 44) (.t 47) (.c (.bool false)))⟩ <|
         .free ⟨(some 49), none, .op (.mov (.t 48))⟩ <|
         .free ⟨(some 50), (some (49, true)), .op (.mov (.t 8))⟩ <|
         .free ⟨(some 51), (some (49, true)), .op (.mov (.t 10))⟩ <|
         .free ⟨(some 52), (some (49, true)), .op (.eqB false (.t 50) (.t 51))⟩ <|
         .free ⟨(some 53), none, .op (.pick (.t 49) (.t 52) (.c (.bool false)))⟩ <|
         .free ⟨(some 54), none, .op (.mov (.t 53))⟩ <|
         .eff [8, 7, 11, 10, 3, 0] ⟨(some 55), (some (54, true)), .call 11 []⟩ <|
         .free ⟨(some 56), none, .op (.pick (.t 54) (.t 55) (.c (.bool false)))⟩ <|
         .free ⟨(some 6), none, .op (.mov (.t 56))⟩ <|
         .done)) (
       .ret)))))
noncomputable def lf3 : LFn := ⟨57, [.tmp 6], lc3⟩
theorem rf3 : resolveFn Tryz.prog 3 = some lf3 := by kernel_rfl
/- excise/exciselaw09.few -/
noncomputable def lc10 : LCode :=
  .seq (
   .region [
     ⟨(some 2), none, .op (.new 27 (.t 0))⟩,
     ⟨(some 4), none, .op (.mov (.c (.bool false)))⟩]) (
   .seq (
    .region [
      ⟨(some 5), none, .op (.fadd 1 (.t 2))⟩,
      ⟨(some 6), none, .op (.load1 (.t 5))⟩,
      ⟨(some 7), none, .op (.lenS (.t 6))⟩,
      ⟨(some 8), none, .op (.mov (.t 1))⟩,
      ⟨(some 9), none, .op (.arith .leq (.t 7) (.t 8))⟩,
      ⟨(some 10), none, .op (.mov (.t 9))⟩,
      ⟨(some 11), (some (10, true)), .op (.fadd 2 (.t 2))⟩,
      ⟨(some 12), (some (10, true)), .op (.load1 (.t 11))⟩,
      ⟨(some 13), (some (10, true)), .op (.lenS (.t 12))⟩,
      ⟨(some 14), (some (10, true)), .op (.mov (.t 1))⟩,
      ⟨(some 15), (some (10, true)), .op (.arith .leq (.t 13) (.t 14))⟩,
      ⟨(some 16), none, .op (.pick (.t 10) (.t 15) (.c (.bool false)))⟩,
      ⟨(some 4), none, .op (.mov (.t 16))⟩]) (
    .ret))
noncomputable def lf10 : LFn := ⟨17, [.tmp 4], lc10⟩
theorem rf10 : resolveFn Tryz.prog 10 = some lf10 := by kernel_rfl
/- excise/policy.Target -/
noncomputable def lc12 : LCode :=
  .seq (
   .region [
     ⟨(some 3), none, .op (.new 27 (.t 0))⟩,
     ⟨(some 4), none, .op (.new 29 (.t 1))⟩,
     ⟨(some 5), none, .op (.new 30 (.t 2))⟩,
     ⟨(some 6), none, .op (.mov (.c (.int .u64 0)))⟩,
     ⟨(some 7), none, .op (.mov (.c (.bool false)))⟩]) (
   .seq (
    .region [
      ⟨(some 11), none, .op (.fadd 2 (.t 3))⟩,
      ⟨(some 12), none, .op (.load1 (.t 11))⟩,
      ⟨(some 13), none, .op (.mkF (.func 45) [] [(.t 4), (.t 5)])⟩,
      ⟨(some 14), none, .call 44 [(.t 12), (.t 13)]⟩,
      ⟨(some 10), none, .op (.mov (.t 14))⟩,
      ⟨(some 15), none, .op (.ext 0 (.t 10))⟩,
      ⟨(some 16), none, .op (.ext 1 (.t 10))⟩,
      ⟨(some 8), none, .op (.new 67 (.c (.agg (List.replicate 20 (.int .u8 0) ++ [.int .u32 0, .int .u64 0]))))⟩,
      ⟨none, none, .op (.store 22 (.t 8) (.t 15))⟩,
      ⟨(some 9), none, .op (.mov (.t 16))⟩]) (
    .seq (
     .region [
       ⟨(some 17), none, .op (.fadd 21 (.t 8))⟩,
       ⟨(some 18), none, .op (.load1 (.t 17))⟩,
       ⟨(some 19), none, .op (.mov (.t 9))⟩,
       ⟨(some 6), none, .op (.mov (.t 18))⟩,
       ⟨(some 7), none, .op (.mov (.t 19))⟩]) (
     .ret)))
noncomputable def lf12 : LFn := ⟨20, [.tmp 6, .tmp 7], lc12⟩
theorem rf12 : resolveFn Tryz.prog 12 = some lf12 := by kernel_rfl
/- excise/exciseref09.Target -/
noncomputable def lc13 : LCode :=
  .seq (
   .region [
     ⟨(some 3), none, .op (.new 27 (.t 0))⟩,
     ⟨(some 4), none, .op (.new 29 (.t 1))⟩,
     ⟨(some 6), none, .op (.mov (.c (.int .u64 0)))⟩,
     ⟨(some 7), none, .op (.mov (.c (.bool false)))⟩]) (
   .seq (
    .seq (
     .region [
       ⟨(some 8), none, .op (.mov (.c (.int .i64 0)))⟩]) (
     .block 0 (
      .loop (
       .seq (
        .seq (
         .region [
           ⟨(some 9), none, .op (.mov (.t 8))⟩,
           ⟨(some 10), none, .op (.fadd 2 (.t 3))⟩,
           ⟨(some 11), none, .op (.load1 (.t 10))⟩,
           ⟨(some 12), none, .op (.lenS (.t 11))⟩,
           ⟨(some 13), none, .op (.arith .lss (.t 9) (.t 12))⟩]) (
         .cond (.t 13) (
          .skip) (
          .exit 0))) (
        .seq (
         .block 1 (
          .seq (
           .regionD [16, 17, 18, 19, 20, 21, 22, 23, 24, 25, 26, 27, 28, 29, 30, 31, 32, 33] (
             .free ⟨(some 16), none, .op (.fadd 2 (.t 3))⟩ <|
             .load 1 ⟨(some 17), none, .op (.load1 (.t 16))⟩ <|
             .free ⟨(some 18), none, .op (.mov (.t 8))⟩ <|
             .free ⟨(some 19), none, .op (.ixS 22 (.t 17) (.t 18))⟩ <|
             .free ⟨(some 20), none, .op (.fadd 0 (.t 19))⟩ <|
             .load 5 ⟨(some 21), none, .op (.loadN 20 (.t 20))⟩ <|
             .load 6 ⟨(some 22), none, .op (.loadN 20 (.t 4))⟩ <|
             .free ⟨(some 23), none, .op (.eqT false (List.replicate 20 (.i)) (.t 21) (.t 22))⟩ <|
             .free ⟨(some 24), none, .op (.mov (.t 23))⟩ <|
             .free ⟨(some 25), (some (24, true)), .op (.fadd 2 (.t 3))⟩ <|
             .load 10 ⟨(some 26), (some (24, true)), .op (.load1 (.t 25))⟩ <|
             .free ⟨(some 27), (some (24, true)), .op (.mov (.t 8))⟩ <|
             .free ⟨(some 28), (some (24, true)), .op (.ixS 22 (.t 26) (.t 27))⟩ <|
             .free ⟨(some 29), (some (24, true)), .op (.fadd 20 (.t 28))⟩ <|
             .load 14 ⟨(some 30), (some (24, true)), .op (.load1 (.t 29))⟩ <|
             .free ⟨(some 31), (some (24, true)), .op (.mov (.t 2))⟩ <|
             .free ⟨(some 32), (some (24, true)), .op (.arith .eql (.t 30) (.t 31))⟩ <|
             .free ⟨(some 33), none, .op (.pick (.t 24) (.t 32) (.c (.bool false)))⟩ <|
             .done)) (
           .cond (.t 33) (
            .seq (
             .region [
               ⟨(some 34), none, .op (.fadd 2 (.t 3))⟩,
               ⟨(some 35), none, .op (.load1 (.t 34))⟩,
               ⟨(some 36), none, .op (.mov (.t 8))⟩,
               ⟨(some 37), none, .op (.ixS 22 (.t 35) (.t 36))⟩,
               ⟨(some 38), none, .op (.fadd 21 (.t 37))⟩,
               ⟨(some 39), none, .op (.load1 (.t 38))⟩,
               ⟨(some 6), none, .op (.mov (.t 39))⟩,
               ⟨(some 7), none, .op (.mov (.c (.bool true)))⟩]) (
             .ret)) (
            .skip)))) (
         .region [
           ⟨(some 14), none, .op (.mov (.t 8))⟩,
           ⟨(some 15), none, .op (.arith .add (.t 14) (.c (.int .i64 1)))⟩,
           ⟨(some 8), none, .op (.mov (.t 15))⟩])))))) (
    .seq (
     .region [
       ⟨(some 6), none, .op (.mov (.c (.int .u64 0)))⟩,
       ⟨(some 7), none, .op (.mov (.c (.bool false)))⟩]) (
     .ret)))
noncomputable def lf13 : LFn := ⟨40, [.tmp 6, .tmp 7], lc13⟩
theorem rf13 : resolveFn Tryz.prog 13 = some lf13 := by kernel_rfl
/- excise/exciselaw09.num -/
noncomputable def lc14 : LCode :=
  .seq (
   .region [
     ⟨(some 2), none, .op (.mov (.c (.int .i64 0)))⟩]) (
   .seq (
    .region [
      ⟨(some 3), none, .op (.mov (.t 0))⟩,
      ⟨(some 2), none, .op (.mov (.t 3))⟩]) (
    .ret))
noncomputable def lf14 : LFn := ⟨4, [.tmp 2], lc14⟩
theorem rf14 : resolveFn Tryz.prog 14 = some lf14 := by kernel_rfl
/- excise/policy.Check -/
noncomputable def lc15 : LCode :=
  .seq (
   .region [
     ⟨(some 1), none, .op (.new 27 (.t 0))⟩,
     ⟨(some 2), none, .op (.new 36 (.c (.int .i64 0)))⟩]) (
   .seq (
    .seq (
     .region [
]) (
     .defer 46 [(.t 2), (.c (.func (.func 47) [] []))])) (
    .seq (
     .region [
       ⟨(some 3), none, .op (.loadN 3 (.t 1))⟩,
       ⟨(some 4), none, .call 48 [(.t 3)]⟩]) (
     .seq (
      .region [
        ⟨none, none, .op (.store 1 (.t 2) (.c (.int .i64 0)))⟩]) (
      .ret))))
noncomputable def lf15 : LFn := ⟨5, [.cell1 2], lc15⟩
theorem rf15 : resolveFn Tryz.prog 15 = some lf15 := by kernel_rfl
/- excise/exciseref09.Check -/
noncomputable def lc16 : LCode :=
  .seq (
   .region [
     ⟨(some 1), none, .op (.new 27 (.t 0))⟩,
     ⟨(some 2), none, .op (.mov (.c (.int .i64 0)))⟩]) (
   .seq (
    .seq (
     .region [
       ⟨(some 8), none, .op (.fadd 1 (.t 1))⟩,
       ⟨(some 9), none, .op (.load1 (.t 8))⟩,
       ⟨(some 10), none, .op (.lenS (.t 9))⟩,
       ⟨(some 11), none, .op (.arith .gtr (.t 10) (.c (.int .i64 64)))⟩,
       ⟨(some 12), none, .op (.mov (.t 11))⟩,
       ⟨(some 13), (some (12, false)), .op (.fadd 2 (.t 1))⟩,
       ⟨(some 14), (some (12, false)), .op (.load1 (.t 13))⟩,
       ⟨(some 15), (some (12, false)), .op (.lenS (.t 14))⟩,
       ⟨(some 16), (some (12, false)), .op (.arith .gtr (.t 15) (.c (.int .i64 64)))⟩,
       ⟨(some 17), none, .op (.pick (.t 12) (.c (.bool true)) (.t 16))⟩]) (
     .cond (.t 17) (
      .seq (
       .region [
         ⟨(some 2), none, .op (.mov (.c (.int .i64 3)))⟩]) (
       .ret)) (
      .skip))) (
    .seq (
     .seq (
      .region [
        ⟨(some 3), none, .op (.mov (.c (.int .i64 1)))⟩]) (
      .block 0 (
       .loop (
        .seq (
         .seq (
          .region [
            ⟨(some 18), none, .op (.mov (.t 3))⟩,
            ⟨(some 19), none, .op (.fadd 1 (.t 1))⟩,
            ⟨(some 20), none, .op (.load1 (.t 19))⟩,
            ⟨(some 21), none, .op (.lenS (.t 20))⟩,
            ⟨(some 22), none, .op (.arith .lss (.t 18) (.t 21))⟩]) (
          .cond (.t 22) (
           .skip) (
           .exit 0))) (
         .seq (
          .block 1 (
           .seq (
            .regionD [25, 26, 27, 28, 29, 30, 31, 32, 33, 34, 35, 36, 37, 38, 39] (
              .free ⟨(some 25), none, .op (.fadd 1 (.t 1))⟩ <|
              .load 1 ⟨(some 26), none, .op (.load1 (.t 25))⟩ <|
              .free ⟨(some 27), none, .op (.mov (.t 3))⟩ <|
              .free ⟨(some 28), none, .op (.arith .sub (.t 27) (.c (.int .i64 1)))⟩ <|
              .free ⟨(some 29), none, .op (.ixS 21 (.t 26) (.t 28))⟩ <|
              .free ⟨(some 30), none, .op (.fadd 0 (.t 29))⟩ <|
              .load 6 ⟨(some 31), none, .op (.loadN 20 (.t 30))⟩ <|
              .free ⟨(some 32), none, .op (.fadd 1 (.t 1))⟩ <|
              .load 8 ⟨(some 33), none, .op (.load1 (.t 32))⟩ <|
              .free ⟨(some 34), none, .op (.mov (.t 3))⟩ <|
              .free ⟨(some 35), none, .op (.ixS 21 (.t 33) (.t 34))⟩ <|
              .free ⟨(some 36), none, .op (.fadd 0 (.t 35))⟩ <|
              .load 12 ⟨(some 37), none, .op (.loadN 20 (.t 36))⟩ <|
              .eff [8, 12, 1, 6] ⟨(some 38), none, .call 23 [(.t 31), (.t 37)]⟩ <|
              .free ⟨(some 39), none, .op (.arith .geq (.t 38) (.c (.int .i64 0)))⟩ <|
              .done)) (
            .cond (.t 39) (
             .seq (
              .region [
                ⟨(some 2), none, .op (.mov (.c (.int .i64 2)))⟩]) (
              .ret)) (
             .skip)))) (
          .region [
            ⟨(some 23), none, .op (.mov (.t 3))⟩,
            ⟨(some 24), none, .op (.arith .add (.t 23) (.c (.int .i64 1)))⟩,
            ⟨(some 3), none, .op (.mov (.t 24))⟩])))))) (
     .seq (
      .seq (
       .region [
         ⟨(some 4), none, .op (.mov (.c (.int .i64 0)))⟩]) (
       .block 2 (
        .loop (
         .seq (
          .seq (
           .region [
             ⟨(some 40), none, .op (.mov (.t 4))⟩,
             ⟨(some 41), none, .op (.fadd 2 (.t 1))⟩,
             ⟨(some 42), none, .op (.load1 (.t 41))⟩,
             ⟨(some 43), none, .op (.lenS (.t 42))⟩,
             ⟨(some 44), none, .op (.arith .lss (.t 40) (.t 43))⟩]) (
           .cond (.t 44) (
            .skip) (
            .exit 2))) (
          .seq (
           .block 3 (
            .seq (
             .region [
               ⟨(some 47), none, .op (.fadd 2 (.t 1))⟩,
               ⟨(some 48), none, .op (.load1 (.t 47))⟩,
               ⟨(some 49), none, .op (.mov (.t 4))⟩,
               ⟨(some 50), none, .op (.ixS 22 (.t 48) (.t 49))⟩,
               ⟨(some 51), none, .op (.loadN 22 (.t 50))⟩,
               ⟨(some 5), none, .op (.new 67 (.c (.agg (List.replicate 20 (.int .u8 0) ++ [.int .u32 0, .int .u64 0]))))⟩,
               ⟨none, none, .op (.store 22 (.t 5) (.t 51))⟩]) (
             .seq (
              .seq (
               .regionD [52, 53, 54, 55, 56, 57, 58, 59] (
                 .free ⟨(some 52), none, .op (.fadd 21 (.t 5))⟩ <|
                 .load 1 ⟨(some 53), none, .op (.load1 (.t 52))⟩ <|
                 .load 2 ⟨(some 54), none, .op (.loadN 3 (.t 1))⟩ <|
                 .free ⟨(some 55), none, .op (.fadd 0 (.t 5))⟩ <|
                 .load 4 ⟨(some 56), none, .op (.loadN 20 (.t 55))⟩ <|
                 .eff [4, 2] ⟨(some 57), none, .call 18 [(.t 54), (.t 56)]⟩ <|
                 .eff [2, 4, 1] ⟨(some 58), none, .call 49 [(.t 53), (.t 57)]⟩ <|
                 .free ⟨(some 59), none, .op (.un .not (.t 58))⟩ <|
                 .done)) (
               .cond (.t 59) (
                .seq (
                 .region [
                   ⟨(some 2), none, .op (.mov (.c (.int .i64 2)))⟩]) (
                 .ret)) (
                .skip))) (
              .seq (
               .region [
                 ⟨(some 60), none, .op (.mov (.t 4))⟩,
                 ⟨(some 61), none, .op (.arith .gtr (.t 60) (.c (.int .i64 0)))⟩]) (
               .cond (.t 61) (
                .seq (
                 .region [
                   ⟨(some 62), none, .op (.fadd 2 (.t 1))⟩,
                   ⟨(some 63), none, .op (.load1 (.t 62))⟩,
                   ⟨(some 64), none, .op (.mov (.t 4))⟩,
                   ⟨(some 65), none, .op (.arith .sub (.t 64) (.c (.int .i64 1)))⟩,
                   ⟨(some 66), none, .op (.ixS 22 (.t 63) (.t 65))⟩,
                   ⟨(some 67), none, .op (.loadN 22 (.t 66))⟩,
                   ⟨(some 6), none, .op (.new 67 (.c (.agg (List.replicate 20 (.int .u8 0) ++ [.int .u32 0, .int .u64 0]))))⟩,
                   ⟨none, none, .op (.store 22 (.t 6) (.t 67))⟩]) (
                 .seq (
                  .region [
                    ⟨(some 68), none, .op (.fadd 0 (.t 6))⟩,
                    ⟨(some 69), none, .op (.loadN 20 (.t 68))⟩,
                    ⟨(some 70), none, .op (.fadd 0 (.t 5))⟩,
                    ⟨(some 71), none, .op (.loadN 20 (.t 70))⟩,
                    ⟨(some 72), none, .call 23 [(.t 69), (.t 71)]⟩,
                    ⟨(some 7), none, .op (.mov (.t 72))⟩]) (
                  .seq (
                   .region [
                     ⟨(some 73), none, .op (.mov (.t 7))⟩,
                     ⟨(some 74), none, .op (.arith .gtr (.t 73) (.c (.int .i64 0)))⟩,
                     ⟨(some 75), none, .op (.mov (.t 74))⟩,
                     ⟨(some 76), (some (75, false)), .op (.mov (.t 7))⟩,
                     ⟨(some 77), (some (75, false)), .op (.arith .eql (.t 76) (.c (.int .i64 0)))⟩,
                     ⟨(some 78), (some (75, false)), .op (.mov (.t 77))⟩,
                     ⟨(some 79), (some (78, true)), .op (.fadd 20 (.t 6))⟩,
                     ⟨(some 80), (some (78, true)), .op (.load1 (.t 79))⟩,
                     ⟨(some 81), (some (78, true)), .op (.fadd 20 (.t 5))⟩,
                     ⟨(some 82), (some (78, true)), .op (.load1 (.t 81))⟩,
                     ⟨(some 83), (some (78, true)), .op (.arith .geq (.t 80) (.t 82))⟩,
                     ⟨(some 84), (some (75, false)), .op (.pick (.t 78) (.t 83) (.c (.bool false)))⟩,
                     ⟨(some 85), none, .op (.pick (.t 75) (.c (.bool true)) (.t 84))⟩]) (
                   .cond (.t 85) (
                    .seq (
                     .region [
                       ⟨(some 2), none, .op (.mov (.c (.int .i64 2)))⟩]) (
                     .ret)) (
                    .skip))))) (
                .skip)))))) (
           .region [
             ⟨(some 45), none, .op (.mov (.t 4))⟩,
             ⟨(some 46), none, .op (.arith .add (.t 45) (.c (.int .i64 1)))⟩,
             ⟨(some 4), none, .op (.mov (.t 46))⟩])))))) (
      .seq (
       .region [
         ⟨(some 2), none, .op (.mov (.c (.int .i64 0)))⟩]) (
       .ret)))))
noncomputable def lf16 : LFn := ⟨86, [.tmp 2], lc16⟩
theorem rf16 : resolveFn Tryz.prog 16 = some lf16 := by kernel_rfl
/- excise/policy.Clearance -/
noncomputable def lc17 : LCode :=
  .seq (
   .region [
     ⟨(some 2), none, .op (.new 27 (.t 0))⟩,
     ⟨(some 3), none, .op (.new 29 (.t 1))⟩,
     ⟨(some 4), none, .op (.mov (.c (.int .u64 0)))⟩]) (
   .seq (
    .region [
      ⟨(some 8), none, .op (.fadd 1 (.t 2))⟩,
      ⟨(some 9), none, .op (.load1 (.t 8))⟩,
      ⟨(some 10), none, .op (.mkF (.func 51) [] [(.t 3)])⟩,
      ⟨(some 11), none, .call 50 [(.t 9), (.t 10)]⟩,
      ⟨(some 7), none, .op (.mov (.t 11))⟩,
      ⟨(some 12), none, .op (.ext 0 (.t 7))⟩,
      ⟨(some 13), none, .op (.ext 1 (.t 7))⟩,
      ⟨(some 5), none, .op (.new 65 (.c (.agg (List.replicate 20 (.int .u8 0) ++ [.int .u64 0]))))⟩,
      ⟨none, none, .op (.store 21 (.t 5) (.t 12))⟩,
      ⟨(some 6), none, .op (.mov (.t 13))⟩]) (
    .seq (
     .seq (
      .region [
        ⟨(some 14), none, .op (.mov (.t 6))⟩,
        ⟨(some 15), none, .op (.un .not (.t 14))⟩]) (
      .cond (.t 15) (
       .seq (
        .region [
          ⟨(some 16), none, .op (.fadd 0 (.t 2))⟩,
          ⟨(some 17), none, .op (.load1 (.t 16))⟩,
          ⟨(some 4), none, .op (.mov (.t 17))⟩]) (
        .ret)) (
       .skip))) (
     .seq (
      .region [
        ⟨(some 18), none, .op (.fadd 20 (.t 5))⟩,
        ⟨(some 19), none, .op (.load1 (.t 18))⟩,
        ⟨(some 4), none, .op (.mov (.t 19))⟩]) (
      .ret))))
noncomputable def lf17 : LFn := ⟨20, [.tmp 4], lc17⟩
theorem rf17 : resolveFn Tryz.prog 17 = some lf17 := by kernel_rfl
/- excise/exciseref09.Clearance -/
noncomputable def lc18 : LCode :=
  .seq (
   .region [
     ⟨(some 2), none, .op (.new 27 (.t 0))⟩,
     ⟨(some 3), none, .op (.new 29 (.t 1))⟩,
     ⟨(some 4), none, .op (.mov (.c (.int .u64 0)))⟩]) (
   .seq (
    .seq (
     .region [
       ⟨(some 5), none, .op (.mov (.c (.int .i64 0)))⟩]) (
     .block 0 (
      .loop (
       .seq (
        .seq (
         .region [
           ⟨(some 6), none, .op (.mov (.t 5))⟩,
           ⟨(some 7), none, .op (.fadd 1 (.t 2))⟩,
           ⟨(some 8), none, .op (.load1 (.t 7))⟩,
           ⟨(some 9), none, .op (.lenS (.t 8))⟩,
           ⟨(some 10), none, .op (.arith .lss (.t 6) (.t 9))⟩]) (
         .cond (.t 10) (
          .skip) (
          .exit 0))) (
        .seq (
         .block 1 (
          .seq (
           .regionD [13, 14, 15, 16, 17, 18, 19, 20] (
             .free ⟨(some 13), none, .op (.fadd 1 (.t 2))⟩ <|
             .load 1 ⟨(some 14), none, .op (.load1 (.t 13))⟩ <|
             .free ⟨(some 15), none, .op (.mov (.t 5))⟩ <|
             .free ⟨(some 16), none, .op (.ixS 21 (.t 14) (.t 15))⟩ <|
             .free ⟨(some 17), none, .op (.fadd 0 (.t 16))⟩ <|
             .load 5 ⟨(some 18), none, .op (.loadN 20 (.t 17))⟩ <|
             .load 6 ⟨(some 19), none, .op (.loadN 20 (.t 3))⟩ <|
             .free ⟨(some 20), none, .op (.eqT false (List.replicate 20 (.i)) (.t 18) (.t 19))⟩ <|
             .done)) (
           .cond (.t 20) (
            .seq (
             .region [
               ⟨(some 21), none, .op (.fadd 1 (.t 2))⟩,
               ⟨(some 22), none, .op (.load1 (.t 21))⟩,
               ⟨(some 23), none, .op (.mov (.t 5))⟩,
               ⟨(some 24), none, .op (.ixS 21 (.t 22) (.t 23))⟩,
               ⟨(some 25), none, .op (.fadd 20 (.t 24))⟩,
               ⟨(some 26), none, .op (.load1 (.t 25))⟩,
               ⟨(some 4), none, .op (.mov (.t 26))⟩]) (
             .ret)) (
            .skip)))) (
         .region [
           ⟨(some 11), none, .op (.mov (.t 5))⟩,
           ⟨(some 12), none, .op (.arith .add (.t 11) (.c (.int .i64 1)))⟩,
           ⟨(some 5), none, .op (.mov (.t 12))⟩])))))) (
    .seq (
     .region [
       ⟨(some 27), none, .op (.fadd 0 (.t 2))⟩,
       ⟨(some 28), none, .op (.load1 (.t 27))⟩,
       ⟨(some 4), none, .op (.mov (.t 28))⟩]) (
     .ret)))
noncomputable def lf18 : LFn := ⟨29, [.tmp 4], lc18⟩
theorem rf18 : resolveFn Tryz.prog 18 = some lf18 := by kernel_rfl
/- excise/policy.Order -/
noncomputable def lc22 : LCode :=
  .seq (
   .region [
     ⟨(some 2), none, .op (.new 29 (.t 0))⟩,
     ⟨(some 3), none, .op (.new 29 (.t 1))⟩,
     ⟨(some 4), none, .op (.mov (.c (.int .i64 0)))⟩]) (
   .seq (
    .regionD [5, 6, 7, 4] (
      .free ⟨(some 5), none, .op (.slA 20 1 (.t 2) none none none)⟩ <|
      .free ⟨(some 6), none, .op (.slA 20 1 (.t 3) none none none)⟩ <|
      .eff [] ⟨(some 7), none, .call 59 [(.t 5), (.t 6)]⟩ <|
      .free ⟨(some 4), none, .op (.mov (.t 7))⟩ <|
      .done)) (
    .ret))
noncomputable def lf22 : LFn := ⟨8, [.tmp 4], lc22⟩
theorem rf22 : resolveFn Tryz.prog 22 = some lf22 := by kernel_rfl
/- excise/exciseref09.Order -/
noncomputable def lc23 : LCode :=
  .seq (
   .region [
     ⟨(some 2), none, .op (.new 29 (.t 0))⟩,
     ⟨(some 3), none, .op (.new 29 (.t 1))⟩,
     ⟨(some 4), none, .op (.mov (.c (.int .i64 0)))⟩]) (
   .seq (
    .seq (
     .region [
       ⟨(some 5), none, .op (.mov (.c (.int .i64 0)))⟩]) (
     .block 0 (
      .loop (
       .seq (
        .seq (
         .region [
           ⟨(some 6), none, .op (.mov (.t 5))⟩,
           ⟨(some 7), none, .op (.arith .lss (.t 6) (.c (.int .i64 20)))⟩]) (
         .cond (.t 7) (
          .skip) (
          .exit 0))) (
        .seq (
         .block 1 (
          .seq (
           .seq (
            .regionD [10, 11, 12, 13, 14, 15, 16] (
              .free ⟨(some 10), none, .op (.mov (.t 5))⟩ <|
              .free ⟨(some 11), none, .op (.ixA 20 1 (.t 2) (.t 10))⟩ <|
              .load 2 ⟨(some 12), none, .op (.load1 (.t 11))⟩ <|
              .free ⟨(some 13), none, .op (.mov (.t 5))⟩ <|
              .free ⟨(some 14), none, .op (.ixA 20 1 (.t 3) (.t 13))⟩ <|
              .load 5 ⟨(some 15), none, .op (.load1 (.t 14))⟩ <|
              .free ⟨(some 16), none, .op (.arith .lss (.t 12) (.t 15))⟩ <|
              .done)) (
            .cond (.t 16) (
             .seq (
              .region [
                ⟨(some 4), none, .op (.mov (.c (.int .i64 (-1))))⟩]) (
              .ret)) (
             .skip))) (
           .seq (
            .regionD [17, 18, 19, 20, 21, 22, 23] (
              .free ⟨(some 17), none, .op (.mov (.t 5))⟩ <|
              .free ⟨(some 18), none, .op (.ixA 20 1 (.t 2) (.t 17))⟩ <|
              .load 2 ⟨(some 19), none, .op (.load1 (.t 18))⟩ <|
              .free ⟨(some 20), none, .op (.mov (.t 5))⟩ <|
              .free ⟨(some 21), none, .op (.ixA 20 1 (.t 3) (.t 20))⟩ <|
              .load 5 ⟨(some 22), none, .op (.load1 (.t 21))⟩ <|
              .free ⟨(some 23), none, .op (.arith .gtr (.t 19) (.t 22))⟩ <|
              .done)) (
            .cond (.t 23) (
             .seq (
              .region [
                ⟨(some 4), none, .op (.mov (.c (.int .i64 1)))⟩]) (
              .ret)) (
             .skip))))) (
         .region [
           ⟨(some 8), none, .op (.mov (.t 5))⟩,
           ⟨(some 9), none, .op (.arith .add (.t 8) (.c (.int .i64 1)))⟩,
           ⟨(some 5), none, .op (.mov (.t 9))⟩])))))) (
    .seq (
     .region [
       ⟨(some 4), none, .op (.mov (.c (.int .i64 0)))⟩]) (
     .ret)))
noncomputable def lf23 : LFn := ⟨24, [.tmp 4], lc23⟩
theorem rf23 : resolveFn Tryz.prog 23 = some lf23 := by kernel_rfl
/- excise/policy.first[excise/api.Release] -/
noncomputable def lc44 : LCode :=
  .seq (
   .region [
     ⟨(some 4), none, .op (.new 67 (.c (.agg (List.replicate 20 (.int .u8 0) ++ [.int .u32 0, .int .u64 0]))))⟩,
     ⟨(some 5), none, .op (.mov (.c (.bool false)))⟩]) (
   .seq (
    .region [
      ⟨(some 7), none, .op (.mov (.t 0))⟩,
      ⟨(some 8), none, .op (.mov (.t 1))⟩,
      ⟨(some 9), none, .call 93 [(.t 7), (.t 8)]⟩,
      ⟨(some 6), none, .op (.mov (.t 9))⟩]) (
    .seq (
     .seq (
      .region [
        ⟨(some 10), none, .op (.mov (.t 6))⟩,
        ⟨(some 11), none, .op (.arith .lss (.t 10) (.c (.int .i64 0)))⟩]) (
      .cond (.t 11) (
       .seq (
        .region [
          ⟨(some 12), none, .op (.loadN 22 (.t 4))⟩,
          ⟨none, none, .op (.store 22 (.t 4) (.t 12))⟩,
          ⟨(some 5), none, .op (.mov (.c (.bool false)))⟩]) (
        .ret)) (
       .skip))) (
     .seq (
      .region [
        ⟨(some 13), none, .op (.mov (.t 0))⟩,
        ⟨(some 14), none, .op (.mov (.t 6))⟩,
        ⟨(some 15), none, .op (.ixS 22 (.t 13) (.t 14))⟩,
        ⟨(some 16), none, .op (.loadN 22 (.t 15))⟩,
        ⟨none, none, .op (.store 22 (.t 4) (.t 16))⟩,
        ⟨(some 5), none, .op (.mov (.c (.bool true)))⟩]) (
      .ret))))
noncomputable def lf44 : LFn := ⟨17, [.cellN 4 22, .tmp 5], lc44⟩
theorem rf44 : resolveFn Tryz.prog 44 = some lf44 := by kernel_rfl
/- excise/policy.Target$1 -/
noncomputable def lc45 : LCode :=
  .seq (
   .region [
     ⟨(some 3), none, .op (.new 67 (.t 0))⟩,
     ⟨(some 4), none, .op (.mov (.c (.bool false)))⟩]) (
   .seq (
    .region [
      ⟨(some 5), none, .op (.loadN 22 (.t 3))⟩,
      ⟨(some 6), none, .op (.loadN 20 (.t 1))⟩,
      ⟨(some 7), none, .op (.load1 (.t 2))⟩,
      ⟨(some 8), none, .op (.fadd 21 (.t 3))⟩,
      ⟨(some 9), none, .op (.load1 (.t 8))⟩,
      ⟨(some 10), none, .op (.build (List.replicate 20 (.int .u8 0) ++ [.int .u32 0, .int .u64 0]) [(0, 20, (.t 6)), (20, 1, (.t 7)), (21, 1, (.t 9))])⟩,
      ⟨(some 11), none, .op (.eqT false (List.replicate 22 (.i)) (.t 5) (.t 10))⟩,
      ⟨(some 4), none, .op (.mov (.t 11))⟩]) (
    .ret))
noncomputable def lf45 : LFn := ⟨12, [.tmp 4], lc45⟩
theorem rf45 : resolveFn Tryz.prog 45 = some lf45 := by kernel_rfl
/- excise/policy.caught -/
noncomputable def lc46 : LCode :=
  .seq (
   .region [
     ⟨(some 5), none, .stuck⟩,
     ⟨(some 4), none, .op (.mov (.t 5))⟩]) (
   .seq (
    .region [
      ⟨(some 6), none, .op (.mov (.t 4))⟩,
      ⟨(some 7), none, .op (.eqN true .iface (.t 6) (.c (.niliface)))⟩]) (
    .cond (.t 7) (
     .seq (
      .region [
        ⟨(some 8), none, .op (.mov (.t 0))⟩,
        ⟨(some 9), none, .op (.mov (.t 4))⟩,
        ⟨(some 10), none, .xop (.asrt 36 false (.int .i64 0) (.t 9))⟩,
        ⟨(some 11), none, .op (.nilchk (.t 8))⟩,
        ⟨none, none, .op (.store 1 (.t 11) (.t 10))⟩]) (
      .region [
        ⟨(some 12), none, .op (.mov (.t 1))⟩,
        ⟨(some 13), none, .callv (.t 12) []⟩])) (
     .skip)))
noncomputable def lf46 : LFn := ⟨14, [], lc46⟩
theorem rf46 : resolveFn Tryz.prog 46 = some lf46 := by kernel_rfl
/- excise/policy.caught -/
noncomputable def lcd46 : LCode :=
  .seq (
   .region [
     ⟨(some 6), none, .op (.mov (.t 4))⟩,
     ⟨(some 7), none, .op (.eqN true .iface (.t 6) (.c (.niliface)))⟩]) (
   .cond (.t 7) (
    .seq (
     .region [
       ⟨(some 8), none, .op (.mov (.t 0))⟩,
       ⟨(some 9), none, .op (.mov (.t 4))⟩,
       ⟨(some 10), none, .xop (.asrt 36 false (.int .i64 0) (.t 9))⟩,
       ⟨(some 11), none, .op (.nilchk (.t 8))⟩,
       ⟨none, none, .op (.store 1 (.t 11) (.t 10))⟩]) (
     .region [
       ⟨(some 12), none, .op (.mov (.t 1))⟩,
       ⟨(some 13), none, .callv (.t 12) []⟩])) (
    .skip))
noncomputable def ld46 : LFnD := ⟨14, 5, 4, lcd46⟩
theorem rd46 : resolveFnD Tryz.prog 46 = some ld46 := by kernel_rfl
/- excise/policy.Check$1 -/
noncomputable def lc47 : LCode :=
  .skip
noncomputable def lf47 : LFn := ⟨0, [], lc47⟩
theorem rf47 : resolveFn Tryz.prog 47 = some lf47 := by kernel_rfl
/- excise/policy.right -/
noncomputable def lc48 : LCode :=
  .seq (
   .region [
     ⟨(some 1), none, .op (.new 27 (.t 0))⟩]) (
   .seq (
    .region [
      ⟨(some 4), none, .op (.fadd 1 (.t 1))⟩,
      ⟨(some 5), none, .op (.load1 (.t 4))⟩,
      ⟨(some 6), none, .op (.lenS (.t 5))⟩,
      ⟨(some 7), none, .op (.arith .leq (.t 6) (.c (.int .i64 64)))⟩,
      ⟨(some 8), none, .op (.mov (.t 7))⟩,
      ⟨(some 9), (some (8, true)), .op (.fadd 2 (.t 1))⟩,
      ⟨(some 10), (some (8, true)), .op (.load1 (.t 9))⟩,
      ⟨(some 11), (some (8, true)), .op (.lenS (.t 10))⟩,
      ⟨(some 12), (some (8, true)), .op (.arith .leq (.t 11) (.c (.int .i64 64)))⟩,
      ⟨(some 13), none, .op (.pick (.t 8) (.t 12) (.c (.bool false)))⟩,
      ⟨(some 14), none, .call 65 [(.t 13), (.c (.int .i64 3))]⟩]) (
    .seq (
     .region [
       ⟨(some 15), none, .op (.fadd 1 (.t 1))⟩,
       ⟨(some 16), none, .op (.load1 (.t 15))⟩,
       ⟨(some 17), none, .call 94 [(.c (.func (.func 95) [] [])), (.t 16)]⟩,
       ⟨(some 18), none, .call 65 [(.t 17), (.c (.int .i64 2))]⟩]) (
     .seq (
      .region [
        ⟨(some 19), none, .op (.fadd 2 (.t 1))⟩,
        ⟨(some 20), none, .op (.load1 (.t 19))⟩,
        ⟨(some 21), none, .call 96 [(.c (.func (.func 97) [] [])), (.t 20)]⟩,
        ⟨(some 22), none, .call 65 [(.t 21), (.c (.int .i64 2))]⟩]) (
      .seq (
       .region [
         ⟨(some 24), none, .op (.fadd 2 (.t 1))⟩,
         ⟨(some 25), none, .op (.load1 (.t 24))⟩,
         ⟨(some 26), none, .op (.mkF (.func 100) [] [(.t 1)])⟩,
         ⟨(some 27), none, .call 44 [(.t 25), (.t 26)]⟩,
         ⟨(some 23), none, .op (.mov (.t 27))⟩,
         ⟨(some 28), none, .op (.ext 0 (.t 23))⟩,
         ⟨(some 29), none, .op (.ext 1 (.t 23))⟩,
         ⟨(some 2), none, .op (.new 67 (.c (.agg (List.replicate 20 (.int .u8 0) ++ [.int .u32 0, .int .u64 0]))))⟩,
         ⟨none, none, .op (.store 22 (.t 2) (.t 28))⟩,
         ⟨(some 3), none, .op (.mov (.t 29))⟩]) (
       .region [
         ⟨(some 30), none, .op (.mov (.t 3))⟩,
         ⟨(some 31), none, .op (.un .not (.t 30))⟩,
         ⟨(some 32), none, .call 65 [(.t 31), (.c (.int .i64 2))]⟩])))))
noncomputable def lf48 : LFn := ⟨33, [], lc48⟩
theorem rf48 : resolveFn Tryz.prog 48 = some lf48 := by kernel_rfl
/- excise/exciseref08.Below -/
noncomputable def lc49 : LCode :=
  .seq (
   .region [
     ⟨(some 4), none, .op (.mov (.c (.bool false)))⟩]) (
   .seq (
    .seq (
     .region [
       ⟨(some 5), none, .op (.mov (.c (.int .i64 0)))⟩]) (
     .block 0 (
      .loop (
       .seq (
        .seq (
         .region [
           ⟨(some 6), none, .op (.mov (.t 5))⟩,
           ⟨(some 7), none, .op (.arith .lss (.t 6) (.c (.int .i64 64)))⟩]) (
         .cond (.t 7) (
          .skip) (
          .exit 0))) (
        .seq (
         .block 1 (
          .seq (
           .region [
             ⟨(some 10), none, .op (.mov (.t 0))⟩,
             ⟨(some 11), none, .op (.mov (.t 5))⟩,
             ⟨(some 12), none, .call 102 [(.t 10), (.t 11)]⟩,
             ⟨(some 13), none, .op (.mov (.t 12))⟩,
             ⟨(some 14), (some (13, true)), .op (.mov (.t 1))⟩,
             ⟨(some 15), (some (13, true)), .op (.mov (.t 5))⟩,
             ⟨(some 16), (some (13, true)), .call 102 [(.t 14), (.t 15)]⟩,
             ⟨(some 17), (some (13, true)), .op (.un .not (.t 16))⟩,
             ⟨(some 18), none, .op (.pick (.t 13) (.t 17) (.c (.bool false)))⟩]) (
           .cond (.t 18) (
            .seq (
             .region [
               ⟨(some 4), none, .op (.mov (.c (.bool false)))⟩]) (
             .ret)) (
            .skip)))) (
         .region [
           ⟨(some 8), none, .op (.mov (.t 5))⟩,
           ⟨(some 9), none, .op (.arith .add (.t 8) (.c (.int .i64 1)))⟩,
           ⟨(some 5), none, .op (.mov (.t 9))⟩])))))) (
    .seq (
     .region [
       ⟨(some 4), none, .op (.mov (.c (.bool true)))⟩]) (
     .ret)))
noncomputable def lf49 : LFn := ⟨19, [.tmp 4], lc49⟩
theorem rf49 : resolveFn Tryz.prog 49 = some lf49 := by kernel_rfl
/- excise/policy.first[excise/api.Clear] -/
noncomputable def lc50 : LCode :=
  .seq (
   .region [
     ⟨(some 4), none, .op (.new 65 (.c (.agg (List.replicate 20 (.int .u8 0) ++ [.int .u64 0]))))⟩,
     ⟨(some 5), none, .op (.mov (.c (.bool false)))⟩]) (
   .seq (
    .region [
      ⟨(some 7), none, .op (.mov (.t 0))⟩,
      ⟨(some 8), none, .op (.mov (.t 1))⟩,
      ⟨(some 9), none, .call 103 [(.t 7), (.t 8)]⟩,
      ⟨(some 6), none, .op (.mov (.t 9))⟩]) (
    .seq (
     .seq (
      .region [
        ⟨(some 10), none, .op (.mov (.t 6))⟩,
        ⟨(some 11), none, .op (.arith .lss (.t 10) (.c (.int .i64 0)))⟩]) (
      .cond (.t 11) (
       .seq (
        .region [
          ⟨(some 12), none, .op (.loadN 21 (.t 4))⟩,
          ⟨none, none, .op (.store 21 (.t 4) (.t 12))⟩,
          ⟨(some 5), none, .op (.mov (.c (.bool false)))⟩]) (
        .ret)) (
       .skip))) (
     .seq (
      .region [
        ⟨(some 13), none, .op (.mov (.t 0))⟩,
        ⟨(some 14), none, .op (.mov (.t 6))⟩,
        ⟨(some 15), none, .op (.ixS 21 (.t 13) (.t 14))⟩,
        ⟨(some 16), none, .op (.loadN 21 (.t 15))⟩,
        ⟨none, none, .op (.store 21 (.t 4) (.t 16))⟩,
        ⟨(some 5), none, .op (.mov (.c (.bool true)))⟩]) (
      .ret))))
noncomputable def lf50 : LFn := ⟨17, [.cellN 4 21, .tmp 5], lc50⟩
theorem rf50 : resolveFn Tryz.prog 50 = some lf50 := by kernel_rfl
/- excise/policy.Clearance$1 -/
noncomputable def lc51 : LCode :=
  .seq (
   .region [
     ⟨(some 2), none, .op (.new 65 (.t 0))⟩,
     ⟨(some 3), none, .op (.mov (.c (.bool false)))⟩]) (
   .seq (
    .region [
      ⟨(some 4), none, .op (.fadd 0 (.t 2))⟩,
      ⟨(some 5), none, .op (.loadN 20 (.t 4))⟩,
      ⟨(some 6), none, .op (.loadN 20 (.t 1))⟩,
      ⟨(some 7), none, .op (.eqT false (List.replicate 20 (.i)) (.t 5) (.t 6))⟩,
      ⟨(some 3), none, .op (.mov (.t 7))⟩]) (
    .ret))
noncomputable def lf51 : LFn := ⟨8, [.tmp 3], lc51⟩
theorem rf51 : resolveFn Tryz.prog 51 = some lf51 := by kernel_rfl
/- bytes.Compare -/
noncomputable def lc59 : LCode :=
  .seq (
   .region [
     ⟨(some 4), none, .op (.mov (.c (.int .i64 0)))⟩]) (
   .seq (
    .region [
      ⟨(some 5), none, .op (.mov (.t 0))⟩,
      ⟨(some 6), none, .op (.mov (.t 1))⟩,
      ⟨(some 7), none, .call 114 [(.t 5), (.t 6)]⟩,
      ⟨(some 4), none, .op (.mov (.t 7))⟩]) (
    .ret))
noncomputable def lf59 : LFn := ⟨8, [.tmp 4], lc59⟩
theorem rf59 : resolveFn Tryz.prog 59 = some lf59 := by kernel_rfl
/- excise/policy.must -/
noncomputable def lc65 : LCode :=
  .seq (
   .region [
     ⟨(some 4), none, .op (.mov (.t 0))⟩,
     ⟨(some 5), none, .op (.un .not (.t 4))⟩]) (
   .cond (.t 5) (
    .region [
      ⟨(some 6), none, .op (.mov (.t 1))⟩,
      ⟨(some 7), none, .op (.mkI 36 (.t 6))⟩,
      ⟨none, none, .panic (.t 7)⟩]) (
    .skip))
noncomputable def lf65 : LFn := ⟨8, [], lc65⟩
theorem rf65 : resolveFn Tryz.prog 65 = some lf65 := by kernel_rfl
/- slices.IndexFunc[[]excise/api.Release,excise/api.Release] -/
noncomputable def lc93 : LCode :=
  .seq (
   .region [
     ⟨(some 4), none, .op (.mov (.c (.int .i64 0)))⟩]) (
   .seq (
    .seq (
     .region [
       ⟨(some 6), none, .op (.mov (.t 0))⟩,
       ⟨(some 7), none, .op (.lenS (.t 6))⟩,
       ⟨(some 8), none, .op (.mov (.c (.int .i64 0)))⟩]) (
     .block 0 (
      .loop (
       .seq (
        .region [
          ⟨(some 9), none, .op (.arith .lss (.t 8) (.t 7))⟩]) (
        .seq (
         .cond (.t 9) (
          .skip) (
          .exit 0)) (
         .seq (
          .block 1 (
           .seq (
            .region [
              ⟨(some 10), none, .op (.mov (.t 8))⟩,
              ⟨(some 5), none, .op (.mov (.t 10))⟩]) (
            .seq (
             .region [
               ⟨(some 11), none, .op (.mov (.t 1))⟩,
               ⟨(some 12), none, .op (.mov (.t 0))⟩,
               ⟨(some 13), none, .op (.mov (.t 5))⟩,
               ⟨(some 14), none, .op (.ixS 22 (.t 12) (.t 13))⟩,
               ⟨(some 15), none, .op (.loadN 22 (.t 14))⟩,
               ⟨(some 16), none, .callv (.t 11) [(.t 15)]⟩]) (
             .cond (.t 16) (
              .seq (
               .region [
                 ⟨(some 17), none, .op (.mov (.t 5))⟩,
                 ⟨(some 4), none, .op (.mov (.t 17))⟩]) (
               .ret)) (
              .skip))))) (
          .region [
            ⟨(some 18), none, .op (.arith .add (.t 8) (.c (.int .i64 1)))⟩,
            ⟨(some 8), none, .op (.mov (.t 18))⟩]))))))) (
    .seq (
     .region [
       ⟨(some 4), none, .op (.mov (.c (.int .i64 (-1))))⟩]) (
     .ret)))
noncomputable def lf93 : LFn := ⟨19, [.tmp 4], lc93⟩
theorem rf93 : resolveFn Tryz.prog 93 = some lf93 := by kernel_rfl
/- excise/policy.rising[excise/api.Clear] -/
noncomputable def lc94 : LCode :=
  .seq (
   .region [
     ⟨(some 4), none, .op (.mov (.c (.bool false)))⟩]) (
   .seq (
    .seq (
     .region [
       ⟨(some 6), none, .op (.mov (.t 1))⟩,
       ⟨(some 7), none, .op (.lenS (.t 6))⟩,
       ⟨(some 8), none, .op (.mov (.c (.int .i64 0)))⟩]) (
     .block 0 (
      .loop (
       .seq (
        .region [
          ⟨(some 9), none, .op (.arith .lss (.t 8) (.t 7))⟩]) (
        .seq (
         .cond (.t 9) (
          .skip) (
          .exit 0)) (
         .seq (
          .block 1 (
           .seq (
            .region [
              ⟨(some 10), none, .op (.mov (.t 8))⟩,
              ⟨(some 5), none, .op (.mov (.t 10))⟩]) (
            .seq (
             .regionD [11, 12, 13, 14, 15, 16, 17, 18, 19, 20, 21, 22, 23, 24, 25, 26] (
               .free ⟨(some 11), none, .op (.mov (.t 5))⟩ <|
               .free ⟨(some 12), none, .op (.arith .gtr (.t 11) (.c (.int .i64 0)))⟩ <|
               .free ⟨(some 13), none, .op (.mov (.t 12))⟩ <|
               .free ⟨(some 14), (some (13, true)), .op (.mov (.t 0))⟩ <|
               .free ⟨(some 15), (some (13, true)), .op (.mov (.t 1))⟩ <|
               .free ⟨(some 16), (some (13, true)), .op (.mov (.t 5))⟩ <|
               .free ⟨(some 17), (some (13, true)), .op (.arith .sub (.t 16) (.c (.int .i64 1)))⟩ <|
               .free ⟨(some 18), (some (13, true)), .op (.ixS 21 (.t 15) (.t 17))⟩ <|
               .load 8 ⟨(some 19), (some (13, true)), .op (.loadN 21 (.t 18))⟩ <|
               .free ⟨(some 20), (some (13, true)), .op (.mov (.t 1))⟩ <|
               .free ⟨(some 21), (some (13, true)), .op (.mov (.t 5))⟩ <|
               .free ⟨(some 22), (some (13, true)), .op (.ixS 21 (.t 20) (.t 21))⟩ <|
               .load 12 ⟨(some 23), (some (13, true)), .op (.loadN 21 (.t 22))⟩ <|
               .eff [12, 8] ⟨(some 24), (some (13, true)), .callv (.t 14) [(.t 19), (.t 23)]⟩ <|
               .free ⟨(some 25), (some (13, true)), .op (.arith .geq (.t 24) (.c (.int .i64 0)))⟩ <|
               .free ⟨(some 26), none, .op (.pick (.t 13) (.t 25) (.c (.bool false)))⟩ <|
               .done)) (
             .cond (.t 26) (
              .seq (
               .region [
                 ⟨(some 4), none, .op (.mov (.c (.bool false)))⟩]) (
               .ret)) (
              .skip))))) (
          .region [
            ⟨(some 27), none, .op (.arith .add (.t 8) (.c (.int .i64 1)))⟩,
            ⟨(some 8), none, .op (.mov (.t 27))⟩]))))))) (
    .seq (
     .region [
       ⟨(some 4), none, .op (.mov (.c (.bool true)))⟩]) (
     .ret)))
noncomputable def lf94 : LFn := ⟨28, [.tmp 4], lc94⟩
theorem rf94 : resolveFn Tryz.prog 94 = some lf94 := by kernel_rfl
/- excise/policy.right$1 -/
noncomputable def lc95 : LCode :=
  .seq (
   .region [
     ⟨(some 2), none, .op (.new 65 (.t 0))⟩,
     ⟨(some 3), none, .op (.new 65 (.t 1))⟩,
     ⟨(some 4), none, .op (.mov (.c (.int .i64 0)))⟩]) (
   .seq (
    .region [
      ⟨(some 5), none, .op (.fadd 0 (.t 2))⟩,
      ⟨(some 6), none, .op (.loadN 20 (.t 5))⟩,
      ⟨(some 7), none, .op (.fadd 0 (.t 3))⟩,
      ⟨(some 8), none, .op (.loadN 20 (.t 7))⟩,
      ⟨(some 9), none, .call 22 [(.t 6), (.t 8)]⟩,
      ⟨(some 4), none, .op (.mov (.t 9))⟩]) (
    .ret))
noncomputable def lf95 : LFn := ⟨10, [.tmp 4], lc95⟩
theorem rf95 : resolveFn Tryz.prog 95 = some lf95 := by kernel_rfl
/- excise/policy.rising[excise/api.Release] -/
noncomputable def lc96 : LCode :=
  .seq (
   .region [
     ⟨(some 4), none, .op (.mov (.c (.bool false)))⟩]) (
   .seq (
    .seq (
     .region [
       ⟨(some 6), none, .op (.mov (.t 1))⟩,
       ⟨(some 7), none, .op (.lenS (.t 6))⟩,
       ⟨(some 8), none, .op (.mov (.c (.int .i64 0)))⟩]) (
     .block 0 (
      .loop (
       .seq (
        .region [
          ⟨(some 9), none, .op (.arith .lss (.t 8) (.t 7))⟩]) (
        .seq (
         .cond (.t 9) (
          .skip) (
          .exit 0)) (
         .seq (
          .block 1 (
           .seq (
            .region [
              ⟨(some 10), none, .op (.mov (.t 8))⟩,
              ⟨(some 5), none, .op (.mov (.t 10))⟩]) (
            .seq (
             .regionD [11, 12, 13, 14, 15, 16, 17, 18, 19, 20, 21, 22, 23, 24, 25, 26] (
               .free ⟨(some 11), none, .op (.mov (.t 5))⟩ <|
               .free ⟨(some 12), none, .op (.arith .gtr (.t 11) (.c (.int .i64 0)))⟩ <|
               .free ⟨(some 13), none, .op (.mov (.t 12))⟩ <|
               .free ⟨(some 14), (some (13, true)), .op (.mov (.t 0))⟩ <|
               .free ⟨(some 15), (some (13, true)), .op (.mov (.t 1))⟩ <|
               .free ⟨(some 16), (some (13, true)), .op (.mov (.t 5))⟩ <|
               .free ⟨(some 17), (some (13, true)), .op (.arith .sub (.t 16) (.c (.int .i64 1)))⟩ <|
               .free ⟨(some 18), (some (13, true)), .op (.ixS 22 (.t 15) (.t 17))⟩ <|
               .load 8 ⟨(some 19), (some (13, true)), .op (.loadN 22 (.t 18))⟩ <|
               .free ⟨(some 20), (some (13, true)), .op (.mov (.t 1))⟩ <|
               .free ⟨(some 21), (some (13, true)), .op (.mov (.t 5))⟩ <|
               .free ⟨(some 22), (some (13, true)), .op (.ixS 22 (.t 20) (.t 21))⟩ <|
               .load 12 ⟨(some 23), (some (13, true)), .op (.loadN 22 (.t 22))⟩ <|
               .eff [12, 8] ⟨(some 24), (some (13, true)), .callv (.t 14) [(.t 19), (.t 23)]⟩ <|
               .free ⟨(some 25), (some (13, true)), .op (.arith .geq (.t 24) (.c (.int .i64 0)))⟩ <|
               .free ⟨(some 26), none, .op (.pick (.t 13) (.t 25) (.c (.bool false)))⟩ <|
               .done)) (
             .cond (.t 26) (
              .seq (
               .region [
                 ⟨(some 4), none, .op (.mov (.c (.bool false)))⟩]) (
               .ret)) (
              .skip))))) (
          .region [
            ⟨(some 27), none, .op (.arith .add (.t 8) (.c (.int .i64 1)))⟩,
            ⟨(some 8), none, .op (.mov (.t 27))⟩]))))))) (
    .seq (
     .region [
       ⟨(some 4), none, .op (.mov (.c (.bool true)))⟩]) (
     .ret)))
noncomputable def lf96 : LFn := ⟨28, [.tmp 4], lc96⟩
theorem rf96 : resolveFn Tryz.prog 96 = some lf96 := by kernel_rfl
/- excise/policy.right$2 -/
noncomputable def lc97 : LCode :=
  .seq (
   .region [
     ⟨(some 2), none, .op (.new 67 (.t 0))⟩,
     ⟨(some 3), none, .op (.new 67 (.t 1))⟩,
     ⟨(some 4), none, .op (.mov (.c (.int .i64 0)))⟩]) (
   .seq (
    .regionD [5, 6, 7, 8, 9, 10, 11, 12, 13, 14, 15, 16, 4] (
      .free ⟨(some 5), none, .op (.fadd 0 (.t 2))⟩ <|
      .load 1 ⟨(some 6), none, .op (.loadN 20 (.t 5))⟩ <|
      .free ⟨(some 7), none, .op (.fadd 0 (.t 3))⟩ <|
      .load 3 ⟨(some 8), none, .op (.loadN 20 (.t 7))⟩ <|
      .free ⟨(some 10), none, .op (.fadd 20 (.t 2))⟩ <|
      .load 6 ⟨(some 11), none, .op (.load1 (.t 10))⟩ <|
      .free ⟨(some 12), none, .op (.fadd 20 (.t 3))⟩ <|
      .load 8 ⟨(some 13), none, .op (.load1 (.t 12))⟩ <|
      .eff [3, 1] ⟨(some 9), none, .call 22 [(.t 6), (.t 8)]⟩ <|
      .eff [1, 3, 8, 6] ⟨(some 14), none, .call 99 [(.t 11), (.t 13)]⟩ <|
      .eff [6, 8, 1, 3] ⟨(some 15), none, .op (.buildS 3 2 [.int .i64 0, .int .i64 0] [(0, 1, (.t 9)), (1, 1, (.t 14))])⟩ <|
      .eff [3, 1, 8, 6] ⟨(some 16), none, .call 98 [(.t 15)]⟩ <|
      .free ⟨(some 4), none, .op (.mov (.t 16))⟩ <|
      .done)) (
    .ret))
noncomputable def lf97 : LFn := ⟨17, [.tmp 4], lc97⟩
theorem rf97 : resolveFn Tryz.prog 97 = some lf97 := by kernel_rfl
/- cmp.Or[int] -/
noncomputable def lc98 : LCode :=
  .seq (
   .region [
     ⟨(some 2), none, .op (.mov (.c (.int .i64 0)))⟩]) (
   .seq (
    .region [
      ⟨(some 3), none, .op (.mov (.c (.int .i64 0)))⟩]) (
    .seq (
     .seq (
      .region [
        ⟨(some 6), none, .op (.mov (.t 0))⟩,
        ⟨(some 7), none, .op (.lenS (.t 6))⟩,
        ⟨(some 8), none, .op (.mov (.c (.int .i64 0)))⟩]) (
      .block 0 (
       .loop (
        .seq (
         .region [
           ⟨(some 9), none, .op (.arith .lss (.t 8) (.t 7))⟩]) (
         .seq (
          .cond (.t 9) (
           .skip) (
           .exit 0)) (
          .seq (
           .block 1 (
            .seq (
             .region [
               ⟨(some 10), none, .op (.ixS 1 (.t 6) (.t 8))⟩,
               ⟨(some 11), none, .op (.load1 (.t 10))⟩,
               ⟨(some 5), none, .op (.mov (.t 11))⟩]) (
             .seq (
              .region [
                ⟨(some 12), none, .op (.mov (.t 5))⟩,
                ⟨(some 13), none, .op (.mov (.t 3))⟩,
                ⟨(some 14), none, .op (.arith .neq (.t 12) (.t 13))⟩]) (
              .cond (.t 14) (
               .seq (
                .region [
                  ⟨(some 15), none, .op (.mov (.t 5))⟩,
                  ⟨(some 2), none, .op (.mov (.t 15))⟩]) (
                .ret)) (
               .skip))))) (
           .region [
             ⟨(some 16), none, .op (.arith .add (.t 8) (.c (.int .i64 1)))⟩,
             ⟨(some 8), none, .op (.mov (.t 16))⟩]))))))) (
     .seq (
      .region [
        ⟨(some 17), none, .op (.mov (.t 3))⟩,
        ⟨(some 2), none, .op (.mov (.t 17))⟩]) (
      .ret))))
noncomputable def lf98 : LFn := ⟨18, [.tmp 2], lc98⟩
theorem rf98 : resolveFn Tryz.prog 98 = some lf98 := by kernel_rfl
/- cmp.Compare[uint32] -/
noncomputable def lc99 : LCode :=
  .seq (
   .region [
     ⟨(some 4), none, .op (.mov (.c (.int .i64 0)))⟩]) (
   .seq (
    .region [
      ⟨(some 7), none, .op (.mov (.t 0))⟩,
      ⟨(some 8), none, .call 145 [(.t 7)]⟩,
      ⟨(some 5), none, .op (.mov (.t 8))⟩]) (
    .seq (
     .region [
       ⟨(some 9), none, .op (.mov (.t 1))⟩,
       ⟨(some 10), none, .call 145 [(.t 9)]⟩,
       ⟨(some 6), none, .op (.mov (.t 10))⟩]) (
     .seq (
      .seq (
       .region [
         ⟨(some 11), none, .op (.mov (.t 5))⟩]) (
       .cond (.t 11) (
        .seq (
         .seq (
          .region [
            ⟨(some 12), none, .op (.mov (.t 6))⟩]) (
          .cond (.t 12) (
           .seq (
            .region [
              ⟨(some 4), none, .op (.mov (.c (.int .i64 0)))⟩]) (
            .ret)) (
           .skip))) (
         .seq (
          .region [
            ⟨(some 4), none, .op (.mov (.c (.int .i64 (-1))))⟩]) (
          .ret))) (
        .skip))) (
      .seq (
       .seq (
        .region [
          ⟨(some 13), none, .op (.mov (.t 6))⟩]) (
        .cond (.t 13) (
         .seq (
          .region [
            ⟨(some 4), none, .op (.mov (.c (.int .i64 1)))⟩]) (
          .ret)) (
         .skip))) (
       .seq (
        .seq (
         .region [
           ⟨(some 14), none, .op (.mov (.t 0))⟩,
           ⟨(some 15), none, .op (.mov (.t 1))⟩,
           ⟨(some 16), none, .op (.arith .lss (.t 14) (.t 15))⟩]) (
         .cond (.t 16) (
          .seq (
           .region [
             ⟨(some 4), none, .op (.mov (.c (.int .i64 (-1))))⟩]) (
           .ret)) (
          .skip))) (
        .seq (
         .seq (
          .region [
            ⟨(some 17), none, .op (.mov (.t 0))⟩,
            ⟨(some 18), none, .op (.mov (.t 1))⟩,
            ⟨(some 19), none, .op (.arith .gtr (.t 17) (.t 18))⟩]) (
          .cond (.t 19) (
           .seq (
            .region [
              ⟨(some 4), none, .op (.mov (.c (.int .i64 1)))⟩]) (
            .ret)) (
           .skip))) (
         .seq (
          .region [
            ⟨(some 4), none, .op (.mov (.c (.int .i64 0)))⟩]) (
          .ret))))))))
noncomputable def lf99 : LFn := ⟨20, [.tmp 4], lc99⟩
theorem rf99 : resolveFn Tryz.prog 99 = some lf99 := by kernel_rfl
/- excise/policy.right$3 -/
noncomputable def lc100 : LCode :=
  .seq (
   .region [
     ⟨(some 2), none, .op (.new 67 (.t 0))⟩,
     ⟨(some 3), none, .op (.mov (.c (.bool false)))⟩]) (
   .seq (
    .regionD [4, 5, 6, 7, 8, 9, 10, 11, 3] (
      .free ⟨(some 4), none, .op (.fadd 21 (.t 2))⟩ <|
      .load 1 ⟨(some 5), none, .op (.load1 (.t 4))⟩ <|
      .load 2 ⟨(some 6), none, .op (.loadN 3 (.t 1))⟩ <|
      .free ⟨(some 7), none, .op (.fadd 0 (.t 2))⟩ <|
      .load 4 ⟨(some 8), none, .op (.loadN 20 (.t 7))⟩ <|
      .eff [4, 2] ⟨(some 9), none, .call 17 [(.t 6), (.t 8)]⟩ <|
      .eff [2, 4, 1] ⟨(some 10), none, .call 101 [(.t 5), (.t 9)]⟩ <|
      .free ⟨(some 11), none, .op (.un .not (.t 10))⟩ <|
      .free ⟨(some 3), none, .op (.mov (.t 11))⟩ <|
      .done)) (
    .ret))
noncomputable def lf100 : LFn := ⟨12, [.tmp 3], lc100⟩
theorem rf100 : resolveFn Tryz.prog 100 = some lf100 := by kernel_rfl
/- excise/label.Below -/
noncomputable def lc101 : LCode :=
  .seq (
   .region [
     ⟨(some 4), none, .op (.mov (.c (.bool false)))⟩]) (
   .seq (
    .region [
      ⟨(some 5), none, .op (.mov (.t 0))⟩,
      ⟨(some 6), none, .op (.build [.int .u64 0] [(0, 1, (.t 5))])⟩,
      ⟨(some 7), none, .op (.fld 0 1 false (.t 6))⟩,
      ⟨(some 8), none, .op (.mov (.t 1))⟩,
      ⟨(some 9), none, .call 146 [(.t 7), (.t 8)]⟩,
      ⟨(some 4), none, .op (.mov (.t 9))⟩]) (
    .ret))
noncomputable def lf101 : LFn := ⟨10, [.tmp 4], lc101⟩
theorem rf101 : resolveFn Tryz.prog 101 = some lf101 := by kernel_rfl
/- excise/exciseref08.Has -/
noncomputable def lc102 : LCode :=
  .seq (
   .region [
     ⟨(some 4), none, .op (.mov (.c (.bool false)))⟩]) (
   .seq (
    .region [
      ⟨(some 5), none, .op (.mov (.t 0))⟩,
      ⟨(some 6), none, .op (.mov (.t 1))⟩,
      ⟨(some 7), none, .op (.cvt .u64 (.t 6))⟩,
      ⟨(some 8), none, .op (.arith .shr (.t 5) (.t 7))⟩,
      ⟨(some 9), none, .op (.arith .rem (.t 8) (.c (.int .u64 2)))⟩,
      ⟨(some 10), none, .op (.arith .eql (.t 9) (.c (.int .u64 1)))⟩,
      ⟨(some 4), none, .op (.mov (.t 10))⟩]) (
    .ret))
noncomputable def lf102 : LFn := ⟨11, [.tmp 4], lc102⟩
theorem rf102 : resolveFn Tryz.prog 102 = some lf102 := by kernel_rfl
/- slices.IndexFunc[[]excise/api.Clear,excise/api.Clear] -/
noncomputable def lc103 : LCode :=
  .seq (
   .region [
     ⟨(some 4), none, .op (.mov (.c (.int .i64 0)))⟩]) (
   .seq (
    .seq (
     .region [
       ⟨(some 6), none, .op (.mov (.t 0))⟩,
       ⟨(some 7), none, .op (.lenS (.t 6))⟩,
       ⟨(some 8), none, .op (.mov (.c (.int .i64 0)))⟩]) (
     .block 0 (
      .loop (
       .seq (
        .region [
          ⟨(some 9), none, .op (.arith .lss (.t 8) (.t 7))⟩]) (
        .seq (
         .cond (.t 9) (
          .skip) (
          .exit 0)) (
         .seq (
          .block 1 (
           .seq (
            .region [
              ⟨(some 10), none, .op (.mov (.t 8))⟩,
              ⟨(some 5), none, .op (.mov (.t 10))⟩]) (
            .seq (
             .region [
               ⟨(some 11), none, .op (.mov (.t 1))⟩,
               ⟨(some 12), none, .op (.mov (.t 0))⟩,
               ⟨(some 13), none, .op (.mov (.t 5))⟩,
               ⟨(some 14), none, .op (.ixS 21 (.t 12) (.t 13))⟩,
               ⟨(some 15), none, .op (.loadN 21 (.t 14))⟩,
               ⟨(some 16), none, .callv (.t 11) [(.t 15)]⟩]) (
             .cond (.t 16) (
              .seq (
               .region [
                 ⟨(some 17), none, .op (.mov (.t 5))⟩,
                 ⟨(some 4), none, .op (.mov (.t 17))⟩]) (
               .ret)) (
              .skip))))) (
          .region [
            ⟨(some 18), none, .op (.arith .add (.t 8) (.c (.int .i64 1)))⟩,
            ⟨(some 8), none, .op (.mov (.t 18))⟩]))))))) (
    .seq (
     .region [
       ⟨(some 4), none, .op (.mov (.c (.int .i64 (-1))))⟩]) (
     .ret)))
noncomputable def lf103 : LFn := ⟨19, [.tmp 4], lc103⟩
theorem rf103 : resolveFn Tryz.prog 103 = some lf103 := by kernel_rfl
/- cmp.isNaN[uint32] -/
noncomputable def lc145 : LCode :=
  .seq (
   .region [
     ⟨(some 2), none, .op (.mov (.c (.bool false)))⟩]) (
   .seq (
    .region [
      ⟨(some 3), none, .op (.mov (.t 0))⟩,
      ⟨(some 4), none, .op (.mov (.t 0))⟩,
      ⟨(some 5), none, .op (.arith .neq (.t 3) (.t 4))⟩,
      ⟨(some 2), none, .op (.mov (.t 5))⟩]) (
    .ret))
noncomputable def lf145 : LFn := ⟨6, [.tmp 2], lc145⟩
theorem rf145 : resolveFn Tryz.prog 145 = some lf145 := by kernel_rfl
/- (excise/label.set).below -/
noncomputable def lc146 : LCode :=
  .seq (
   .region [
     ⟨(some 4), none, .op (.mov (.c (.bool false)))⟩]) (
   .seq (
    .region [
      ⟨(some 5), none, .op (.mov (.t 0))⟩,
      ⟨(some 6), none, .op (.mov (.t 1))⟩,
      ⟨(some 7), none, .op (.arith .andNot (.t 5) (.t 6))⟩,
      ⟨(some 8), none, .op (.arith .eql (.t 7) (.c (.int .u64 0)))⟩,
      ⟨(some 4), none, .op (.mov (.t 8))⟩]) (
    .ret))
noncomputable def lf146 : LFn := ⟨9, [.tmp 4], lc146⟩
theorem rf146 : resolveFn Tryz.prog 146 = some lf146 := by kernel_rfl
end Go.Proofs
