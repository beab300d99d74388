/- The functions' resolved code, by the tool Gen. -/
import Derived.Test.YtgmfnndoaljdbaaGreatDoorTA
import Derived.Test.YtgmfnndoaljdbaaGreatDoorProg
set_option linter.all false
namespace Go.Proofs
open Go Go.Ax
set_option maxRecDepth 100000
/- excise/exciselaw09.works -/
noncomputable def lc11 : LCode :=
  .seq (
   .region [
     ⟨(some 0), none, .op (.mov (.c (.bool false)))⟩]) (
   .seq (
    .region [
      ⟨(some 11), none, .call 34 [(.c (.int .u8 1))]⟩,
      ⟨(some 12), none, .call 24 [(.t 11)]⟩,
      ⟨(some 13), none, .op (.arith .add (.c (.str [100, 101, 102, 97, 117, 108, 116, 32, 45, 10, 99, 108, 101, 97, 114, 32])) (.t 12))⟩,
      ⟨(some 14), none, .op (.arith .add (.t 13) (.c (.str [32, 48, 44, 49, 10, 114, 101, 108, 101, 97, 115, 101, 32])))⟩,
      ⟨(some 15), none, .call 34 [(.c (.int .u8 1))]⟩,
      ⟨(some 16), none, .call 24 [(.t 15)]⟩,
      ⟨(some 17), none, .op (.arith .add (.t 14) (.t 16))⟩,
      ⟨(some 18), none, .op (.arith .add (.t 17) (.c (.str [32, 55, 32, 49, 10])))⟩,
      ⟨(some 19), none, .call 30 [(.t 18)]⟩,
      ⟨(some 10), none, .op (.mov (.t 19))⟩,
      ⟨(some 20), none, .op (.ext 0 (.t 10))⟩,
      ⟨(some 21), none, .op (.ext 1 (.t 10))⟩,
      ⟨(some 1), none, .op (.new 27 (.c (.agg [.int .u64 0, .nilslice, .nilslice])))⟩,
      ⟨none, none, .op (.store 3 (.t 1) (.t 20))⟩,
      ⟨(some 2), none, .op (.mov (.t 21))⟩]) (
    .seq (
     .regionD [23, 24, 25, 22, 26, 27, 3, 4] (
       .load 0 ⟨(some 23), none, .op (.loadN 3 (.t 1))⟩ <|
       .eff [] ⟨(some 24), none, .call 34 [(.c (.int .u8 1))]⟩ <|
       .eff [0] ⟨(some 25), none, .call 12 [(.t 23), (.t 24), (.c (.int .u32 7))]⟩ <|
       .free ⟨(some 22), none, .op (.mov (.t 25))⟩ <|
       .free ⟨(some 26), none, .op (.ext 0 (.t 22))⟩ <|
       .free ⟨(some 27), none, .op (.ext 1 (.t 22))⟩ <|
       .free ⟨(some 3), none, .op (.mov (.t 26))⟩ <|
       .free ⟨(some 4), none, .op (.mov (.t 27))⟩ <|
       .done)) (
     .seq (
      .regionD [29, 30, 31, 28, 32, 33, 5, 6] (
        .load 0 ⟨(some 29), none, .op (.loadN 3 (.t 1))⟩ <|
        .eff [] ⟨(some 30), none, .call 34 [(.c (.int .u8 1))]⟩ <|
        .eff [0] ⟨(some 31), none, .call 12 [(.t 29), (.t 30), (.c (.int .u32 8))]⟩ <|
        .free ⟨(some 28), none, .op (.mov (.t 31))⟩ <|
        .free ⟨(some 32), none, .op (.ext 0 (.t 28))⟩ <|
        .free ⟨(some 33), none, .op (.ext 1 (.t 28))⟩ <|
        .free ⟨(some 5), none, .op (.mov (.t 32))⟩ <|
        .free ⟨(some 6), none, .op (.mov (.t 33))⟩ <|
        .done)) (
      .seq (
       .region [
         ⟨(some 34), none, .call 34 [(.c (.int .u8 2))]⟩,
         ⟨(some 35), none, .op (.build (List.replicate 20 (.int .u8 0) ++ [.int .u32 0, .int .u64 0]) [(0, 20, (.t 34)), (21, 1, (.c (.int .u64 2)))])⟩,
         ⟨(some 36), none, .op (.buildS 67 1 (List.replicate 20 (.int .u8 0) ++ [.int .u32 0, .int .u64 0]) [(0, 22, (.t 35))])⟩,
         ⟨(some 37), none, .op (.build [.int .u64 0, .nilslice, .nilslice] [(2, 1, (.t 36))])⟩,
         ⟨(some 38), none, .call 15 [(.t 37)]⟩,
         ⟨(some 7), none, .op (.mov (.t 38))⟩]) (
       .seq (
        .region [
          ⟨(some 40), none, .call 19 [(.c (.str [48, 120, 49]))]⟩,
          ⟨(some 39), none, .op (.mov (.t 40))⟩,
          ⟨(some 41), none, .op (.ext 0 (.t 39))⟩,
          ⟨(some 42), none, .op (.ext 1 (.t 39))⟩,
          ⟨(some 8), none, .op (.new 29 (.c (.agg (List.replicate 20 (.int .u8 0)))))⟩,
          ⟨none, none, .op (.store 20 (.t 8) (.t 41))⟩,
          ⟨(some 9), none, .op (.mov (.t 42))⟩]) (
        .seq (
         .regionD [43, 44, 45, 46, 47, 48, 49, 50, 51, 52, 53, 54, 55, 56, 57, 58, 59, 60, 61, 62, 63, 64, 65, 66, 67, 68, 69, 70, 71, 72, 73, 74, 75, 76, 77, 78, 79, 80, 81, 82, 83, 84, 85, 86, 87, 88, 0] (
           .free ⟨(some 43), none, .op (.mov (.t 2))⟩ <|
           .eff [] ⟨(some 44), none, .call 14 [(.t 43)]⟩ <|
           .free ⟨(some 45), none, .op (.arith .eql (.t 44) (.c (.int .i64 0)))⟩ <|
           .free ⟨(some 46), none, .op (.mov (.t 45))⟩ <|
           .load 4 ⟨(some 47), (some (46, true)), .op (.loadN 3 (.t 1))⟩ <|
           .eff [] ⟨(some 48), (some (46, true)), .call 34 [(.c (.int .u8 1))]⟩ <|
           .eff [4] ⟨(some 49), (some (46, true)), .call 17 [(.t 47), (.t 48)]⟩ <|
           .free ⟨(some 50), (some (46, true)), .op (.arith .eql (.t 49) (.c (.int .u64 3)))⟩ <|
           .free ⟨(some 51), none, .op (.pick (.t 46) (.t 50) (.c (.bool false)))⟩ <|
           .free ⟨(some 52), none, .op (.mov (.t 51))⟩ <|
           .load 10 ⟨(some 53), (some (52, true)), .op (.loadN 3 (.t 1))⟩ <|
           .eff [4] ⟨(some 54), (some (52, true)), .call 34 [(.c (.int .u8 2))]⟩ <|
           .eff [4, 10] ⟨(some 55), (some (52, true)), .call 17 [(.t 53), (.t 54)]⟩ <|
           .free ⟨(some 56), (some (52, true)), .op (.arith .eql (.t 55) (.c (.int .u64 0)))⟩ <|
           .free ⟨(some 57), none, .op (.pick (.t 52) (.t 56) (.c (.bool false)))⟩ <|
           .free ⟨(some 58), none, .op (.mov (.t 57))⟩ <|
           .free ⟨(some 59), (some (58, true)), .op (.mov (.t 3))⟩ <|
           .free ⟨(some 60), (some (58, true)), .op (.arith .eql (.t 59) (.c (.int .u64 2)))⟩ <|
           .free ⟨(some 61), none, .op (.pick (.t 58) (.t 60) (.c (.bool false)))⟩ <|
           .free ⟨(some 62), none, .op (.mov (.t 61))⟩ <|
           .free ⟨(some 63), (some (62, true)), .op (.mov (.t 4))⟩ <|
           .free ⟨(some 64), none, .op (.pick (.t 62) (.t 63) (.c (.bool false)))⟩ <|
           .free ⟨(some 65), none, .op (.mov (.t 64))⟩ <|
           .free ⟨(some 66), (some (65, true)), .op (.mov (.t 5))⟩ <|
           .free ⟨(some 67), (some (65, true)), .op (.arith .eql (.t 66) (.c (.int .u64 0)))⟩ <|
           .free ⟨(some 68), none, .op (.pick (.t 65) (.t 67) (.c (.bool false)))⟩ <|
           .free ⟨(some 69), none, .op (.mov (.t 68))⟩ <|
           .free ⟨(some 70), (some (69, true)), .op (.mov (.t 6))⟩ <|
           .free ⟨(some 71), (some (69, true)), .op (.un .not (.t 70))⟩ <|
           .free ⟨(some 72), none, .op (.pick (.t 69) (.t 71) (.c (.bool false)))⟩ <|
           .free ⟨(some 73), none, .op (.mov (.t 72))⟩ <|
           .free ⟨(some 74), (some (73, true)), .op (.mov (.t 7))⟩ <|
           .eff [4, 10] ⟨(some 75), (some (73, true)), .call 14 [(.t 74)]⟩ <|
           .free ⟨(some 76), (some (73, true)), .op (.arith .eql (.t 75) (.c (.int .i64 2)))⟩ <|
           .free ⟨(some 77), none, .op (.pick (.t 73) (.t 76) (.c (.bool false)))⟩ <|
           .free ⟨(some 78), none, .op (.mov (.t 77))⟩ <|
           .free ⟨(some 79), (some (78, true)), .op (.mov (.t 9))⟩ <|
           .eff [4, 10] ⟨(some 80), (some (78, true)), .call 14 [(.t 79)]⟩ <|
           .free ⟨(some 81), (some (78, true)), .op (.arith .eql (.t 80) (.c (.int .i64 190)))⟩ <|
           .free ⟨(some 82), none, .op (.pick (.t 78) (.t 81) (.c (.bool false)))⟩ <|
           .free ⟨(some 83), none, .op (.mov (.t 82))⟩ <|
           .free ⟨(some 84), (some (83, true)), .op (.build [.int .u64 0, .int .u64 0, .int .u64 0, .int .u64 0] [(0, 1, (.c (.int .u64 5))), (1, 1, (.c (.int .u64 0))), (2, 1, (.c (.int .u64 4294967296))), (3, 1, (.c (.int .u64 0)))])⟩ <|
           .eff [4, 10] ⟨(some 85), (some (83, true)), .call 27 [(.t 84)]⟩ <|
           .eff [10, 4] ⟨(some 86), (some (83, true)), .call 34 [(.c (.int .u8 5))]⟩ <|
           .free ⟨(some 87), (some (83, true)), .op (.eqT false (List.replicate 20 (.i)) (.t 85) (.t 86))⟩ <|
           .free ⟨(some 88), none, .op (.pick (.t 83) (.t 87) (.c (.bool false)))⟩ <|
           .free ⟨(some 0), none, .op (.mov (.t 88))⟩ <|
           .done)) (
         .ret)))))))
noncomputable def lf11 : LFn := ⟨89, [.tmp 0], lc11⟩
theorem rf11 : resolveFn Tryz.prog 11 = some lf11 := by kernel_rfl
/- excise/policy.Address -/
noncomputable def lc19 : LCode :=
  .seq (
   .region [
     ⟨(some 2), none, .op (.new 29 (.c (.agg (List.replicate 20 (.int .u8 0)))))⟩,
     ⟨(some 3), none, .op (.mov (.c (.int .i64 0)))⟩]) (
   .seq (
    .region [
      ⟨(some 8), none, .op (.mov (.t 0))⟩,
      ⟨(some 9), none, .call 52 [(.t 8), (.c (.str [48, 120]))]⟩,
      ⟨(some 7), none, .op (.mov (.t 9))⟩,
      ⟨(some 10), none, .op (.ext 0 (.t 7))⟩,
      ⟨(some 11), none, .op (.ext 1 (.t 7))⟩,
      ⟨(some 4), none, .op (.mov (.t 10))⟩,
      ⟨(some 5), none, .op (.mov (.t 11))⟩]) (
    .seq (
     .seq (
      .region [
        ⟨(some 12), none, .op (.mov (.t 5))⟩,
        ⟨(some 13), none, .op (.un .not (.t 12))⟩,
        ⟨(some 14), none, .op (.mov (.t 13))⟩,
        ⟨(some 15), (some (14, false)), .op (.mov (.t 4))⟩,
        ⟨(some 16), (some (14, false)), .op (.lenStr (.t 15))⟩,
        ⟨(some 17), (some (14, false)), .op (.arith .neq (.t 16) (.c (.int .i64 40)))⟩,
        ⟨(some 18), none, .op (.pick (.t 14) (.c (.bool true)) (.t 17))⟩,
        ⟨(some 19), none, .op (.mov (.t 18))⟩,
        ⟨(some 20), (some (19, false)), .op (.mov (.t 4))⟩,
        ⟨(some 21), (some (19, false)), .call 53 [(.t 20), (.c (.str [48, 49, 50, 51, 52, 53, 54, 55, 56, 57, 97, 98, 99, 100, 101, 102]))]⟩,
        ⟨(some 22), (some (19, false)), .op (.arith .neq (.t 21) (.c (.str [])))⟩,
        ⟨(some 23), none, .op (.pick (.t 19) (.c (.bool true)) (.t 22))⟩]) (
      .cond (.t 23) (
       .seq (
        .region [
          ⟨(some 24), none, .op (.loadN 20 (.t 2))⟩,
          ⟨none, none, .op (.store 20 (.t 2) (.t 24))⟩,
          ⟨(some 3), none, .op (.mov (.c (.int .i64 190)))⟩]) (
        .ret)) (
       .skip))) (
     .seq (
      .seq (
       .region [
         ⟨(some 25), none, .op (.mov (.c (.int .i64 0)))⟩]) (
       .block 0 (
        .loop (
         .seq (
          .region [
            ⟨(some 26), none, .op (.arith .lss (.t 25) (.c (.int .i64 20)))⟩]) (
          .seq (
           .cond (.t 26) (
            .skip) (
            .exit 0)) (
           .seq (
            .block 1 (
             .seq (
              .region [
                ⟨(some 27), none, .op (.mov (.t 25))⟩,
                ⟨(some 6), none, .op (.mov (.t 27))⟩]) (
              .regionD [28, 29, 30, 31, 32, 33, 34, 35, 36, 37, 38, 39, 40, 41, 42, 43] (
                .free ⟨(some 28), none, .op (.mov (.t 6))⟩ <|
                .free ⟨(some 29), none, .op (.mov (.t 4))⟩ <|
                .free ⟨(some 30), none, .op (.mov (.t 6))⟩ <|
                .free ⟨(some 31), none, .op (.arith .mul (.c (.int .i64 2)) (.t 30))⟩ <|
                .free ⟨(some 32), none, .op (.ixStr (.t 29) (.t 31))⟩ <|
                .free ⟨(some 35), none, .op (.mov (.t 4))⟩ <|
                .free ⟨(some 36), none, .op (.mov (.t 6))⟩ <|
                .free ⟨(some 37), none, .op (.arith .mul (.c (.int .i64 2)) (.t 36))⟩ <|
                .free ⟨(some 38), none, .op (.arith .add (.t 37) (.c (.int .i64 1)))⟩ <|
                .free ⟨(some 39), none, .op (.ixStr (.t 35) (.t 38))⟩ <|
                .eff [] ⟨(some 33), none, .call 54 [(.c (.str [48, 49, 50, 51, 52, 53, 54, 55, 56, 57, 97, 98, 99, 100, 101, 102])), (.t 32)]⟩ <|
                .free ⟨(some 34), none, .op (.arith .shl (.t 33) (.c (.int .u64 4)))⟩ <|
                .eff [] ⟨(some 40), none, .call 54 [(.c (.str [48, 49, 50, 51, 52, 53, 54, 55, 56, 57, 97, 98, 99, 100, 101, 102])), (.t 39)]⟩ <|
                .free ⟨(some 41), none, .op (.arith .or (.t 34) (.t 40))⟩ <|
                .free ⟨(some 42), none, .op (.cvt .u8 (.t 41))⟩ <|
                .free ⟨(some 43), none, .op (.ixA 20 1 (.t 2) (.t 28))⟩ <|
                .eff [] ⟨none, none, .op (.store 1 (.t 43) (.t 42))⟩ <|
                .done)))) (
            .region [
              ⟨(some 44), none, .op (.arith .add (.t 25) (.c (.int .i64 1)))⟩,
              ⟨(some 25), none, .op (.mov (.t 44))⟩]))))))) (
      .seq (
       .region [
         ⟨(some 45), none, .op (.loadN 20 (.t 2))⟩,
         ⟨none, none, .op (.store 20 (.t 2) (.t 45))⟩,
         ⟨(some 3), none, .op (.mov (.c (.int .i64 0)))⟩]) (
       .ret)))))
noncomputable def lf19 : LFn := ⟨46, [.cellN 2 20, .tmp 3], lc19⟩
theorem rf19 : resolveFn Tryz.prog 19 = some lf19 := by kernel_rfl
/- excise/exciseref09.Name -/
noncomputable def lc24 : LCode :=
  .seq (
   .region [
     ⟨(some 1), none, .op (.new 29 (.t 0))⟩,
     ⟨(some 2), none, .op (.mov (.c (.str [])))⟩]) (
   .seq (
    .region [
      ⟨(some 3), none, .op (.mov (.c (.str [48, 120])))⟩]) (
    .seq (
     .seq (
      .region [
        ⟨(some 4), none, .op (.mov (.c (.int .i64 0)))⟩]) (
      .block 0 (
       .loop (
        .seq (
         .seq (
          .region [
            ⟨(some 5), none, .op (.mov (.t 4))⟩,
            ⟨(some 6), none, .op (.arith .lss (.t 5) (.c (.int .i64 20)))⟩]) (
          .cond (.t 6) (
           .skip) (
           .exit 0))) (
         .seq (
          .block 1 (
           .regionD [9, 10, 11, 12, 13, 14, 15, 16, 17, 18, 19, 20, 21, 22, 23, 24, 25, 26, 27, 28, 29, 30, 31, 3] (
             .free ⟨(some 9), none, .op (.mov (.t 3))⟩ <|
             .free ⟨(some 10), none, .op (.mov (.t 4))⟩ <|
             .free ⟨(some 11), none, .op (.ixA 20 1 (.t 1) (.t 10))⟩ <|
             .load 3 ⟨(some 12), none, .op (.load1 (.t 11))⟩ <|
             .free ⟨(some 13), none, .op (.arith .quo (.t 12) (.c (.int .u8 16)))⟩ <|
             .free ⟨(some 14), none, .op (.mov (.t 4))⟩ <|
             .free ⟨(some 15), none, .op (.ixA 20 1 (.t 1) (.t 14))⟩ <|
             .load 7 ⟨(some 16), none, .op (.load1 (.t 15))⟩ <|
             .free ⟨(some 17), none, .op (.arith .quo (.t 16) (.c (.int .u8 16)))⟩ <|
             .free ⟨(some 18), none, .op (.arith .add (.t 17) (.c (.int .u8 1)))⟩ <|
             .free ⟨(some 19), none, .op (.slStr (.c (.str [48, 49, 50, 51, 52, 53, 54, 55, 56, 57, 97, 98, 99, 100, 101, 102])) (some (.t 13)) (some (.t 18)))⟩ <|
             .free ⟨(some 20), none, .op (.arith .add (.t 9) (.t 19))⟩ <|
             .free ⟨(some 21), none, .op (.mov (.t 4))⟩ <|
             .free ⟨(some 22), none, .op (.ixA 20 1 (.t 1) (.t 21))⟩ <|
             .load 14 ⟨(some 23), none, .op (.load1 (.t 22))⟩ <|
             .free ⟨(some 24), none, .op (.arith .rem (.t 23) (.c (.int .u8 16)))⟩ <|
             .free ⟨(some 25), none, .op (.mov (.t 4))⟩ <|
             .free ⟨(some 26), none, .op (.ixA 20 1 (.t 1) (.t 25))⟩ <|
             .load 18 ⟨(some 27), none, .op (.load1 (.t 26))⟩ <|
             .free ⟨(some 28), none, .op (.arith .rem (.t 27) (.c (.int .u8 16)))⟩ <|
             .free ⟨(some 29), none, .op (.arith .add (.t 28) (.c (.int .u8 1)))⟩ <|
             .free ⟨(some 30), none, .op (.slStr (.c (.str [48, 49, 50, 51, 52, 53, 54, 55, 56, 57, 97, 98, 99, 100, 101, 102])) (some (.t 24)) (some (.t 29)))⟩ <|
             .free ⟨(some 31), none, .op (.arith .add (.t 20) (.t 30))⟩ <|
             .free ⟨(some 3), none, .op (.mov (.t 31))⟩ <|
             .done))) (
          .region [
            ⟨(some 7), none, .op (.mov (.t 4))⟩,
            ⟨(some 8), none, .op (.arith .add (.t 7) (.c (.int .i64 1)))⟩,
            ⟨(some 4), none, .op (.mov (.t 8))⟩])))))) (
     .seq (
      .region [
        ⟨(some 32), none, .op (.mov (.t 3))⟩,
        ⟨(some 2), none, .op (.mov (.t 32))⟩]) (
      .ret))))
noncomputable def lf24 : LFn := ⟨33, [.tmp 2], lc24⟩
theorem rf24 : resolveFn Tryz.prog 24 = some lf24 := by kernel_rfl
/- excise/policy.Of -/
noncomputable def lc27 : LCode :=
  .seq (
   .region [
     ⟨(some 1), none, .op (.new 43 (.t 0))⟩,
     ⟨(some 2), none, .op (.new 29 (.c (.agg (List.replicate 20 (.int .u8 0)))))⟩]) (
   .seq (
    .region [
      ⟨(some 3), none, .op (.loadN 4 (.t 1))⟩,
      ⟨(some 4), none, .call 62 [(.t 3)]⟩,
      ⟨(some 5), none, .op (.slS 1 (.t 4) (some (.c (.int .i64 12))) none none)⟩,
      ⟨(some 6), none, .xop (.arrAt 20 (.t 5))⟩,
      ⟨(some 7), none, .op (.loadN 20 (.t 6))⟩,
      ⟨none, none, .op (.store 20 (.t 2) (.t 7))⟩]) (
    .ret))
noncomputable def lf27 : LFn := ⟨8, [.cellN 2 20], lc27⟩
theorem rf27 : resolveFn Tryz.prog 27 = some lf27 := by kernel_rfl
/- excise/policy.Parse -/
noncomputable def lc30 : LCode :=
  .seq (
   .region [
     ⟨(some 2), none, .op (.new 27 (.c (.agg [.int .u64 0, .nilslice, .nilslice])))⟩,
     ⟨(some 3), none, .op (.new 36 (.c (.int .i64 0)))⟩]) (
   .seq (
    .seq (
     .region [
       ⟨(some 9), none, .op (.mkF (.func 64) [] [(.t 2)])⟩]) (
     .defer 46 [(.t 3), (.t 9)])) (
    .seq (
     .region [
       ⟨(some 10), none, .op (.mov (.t 0))⟩,
       ⟨(some 11), none, .op (.lenStr (.t 10))⟩,
       ⟨(some 12), none, .op (.arith .leq (.t 11) (.c (.int .i64 65536)))⟩,
       ⟨(some 13), none, .call 65 [(.t 12), (.c (.int .i64 3))]⟩]) (
     .seq (
      .region [
        ⟨(some 15), none, .op (.mov (.t 0))⟩,
        ⟨(some 16), none, .call 66 [(.t 15), (.c (.str [10]))]⟩,
        ⟨(some 14), none, .op (.mov (.t 16))⟩,
        ⟨(some 17), none, .op (.ext 0 (.t 14))⟩,
        ⟨(some 18), none, .op (.ext 1 (.t 14))⟩,
        ⟨(some 4), none, .op (.mov (.t 17))⟩,
        ⟨(some 5), none, .op (.mov (.t 18))⟩]) (
      .seq (
       .region [
         ⟨(some 19), none, .op (.mov (.t 5))⟩,
         ⟨(some 20), none, .call 65 [(.t 19), (.c (.int .i64 190))]⟩]) (
       .seq (
        .region [
          ⟨(some 21), none, .op (.build [.nilslice, .int .u64 0, .nilslice, .nilslice] [])⟩,
          ⟨(some 22), none, .op (.new 123 (.t 21))⟩,
          ⟨(some 6), none, .op (.mov (.t 22))⟩]) (
        .seq (
         .seq (
          .region [
            ⟨(some 23), none, .op (.mov (.t 4))⟩,
            ⟨(some 24), none, .call 67 [(.t 23), (.c (.str [10]))]⟩,
            ⟨(some 25), none, .op (.lenS (.t 24))⟩,
            ⟨(some 26), none, .op (.mov (.c (.int .i64 0)))⟩]) (
          .block 0 (
           .loop (
            .seq (
             .region [
               ⟨(some 27), none, .op (.arith .lss (.t 26) (.t 25))⟩]) (
             .seq (
              .cond (.t 27) (
               .skip) (
               .exit 0)) (
              .seq (
               .block 1 (
                .seq (
                 .region [
                   ⟨(some 28), none, .op (.mov (.t 26))⟩,
                   ⟨(some 29), none, .op (.ixS 1 (.t 24) (.t 26))⟩,
                   ⟨(some 30), none, .op (.load1 (.t 29))⟩,
                   ⟨(some 7), none, .op (.mov (.t 28))⟩,
                   ⟨(some 8), none, .op (.mov (.t 30))⟩]) (
                 .region [
                   ⟨(some 31), none, .op (.mov (.t 6))⟩,
                   ⟨(some 32), none, .op (.mov (.t 8))⟩,
                   ⟨(some 33), none, .op (.mov (.t 7))⟩,
                   ⟨(some 34), none, .call 68 [(.t 31), (.t 32), (.t 33)]⟩]))) (
               .region [
                 ⟨(some 35), none, .op (.arith .add (.t 26) (.c (.int .i64 1)))⟩,
                 ⟨(some 26), none, .op (.mov (.t 35))⟩]))))))) (
         .seq (
          .region [
            ⟨(some 36), none, .op (.mov (.t 6))⟩,
            ⟨(some 37), none, .op (.nilchk (.t 36))⟩,
            ⟨(some 38), none, .op (.fadd 1 (.t 37))⟩,
            ⟨(some 39), none, .op (.loadN 3 (.t 38))⟩,
            ⟨(some 40), none, .call 48 [(.t 39)]⟩]) (
          .seq (
           .region [
             ⟨(some 41), none, .op (.mov (.t 6))⟩,
             ⟨(some 42), none, .op (.nilchk (.t 41))⟩,
             ⟨(some 43), none, .op (.fadd 1 (.t 42))⟩,
             ⟨(some 44), none, .op (.loadN 3 (.t 43))⟩,
             ⟨none, none, .op (.store 3 (.t 2) (.t 44))⟩,
             ⟨none, none, .op (.store 1 (.t 3) (.c (.int .i64 0)))⟩]) (
           .ret)))))))))
noncomputable def lf30 : LFn := ⟨45, [.cellN 2 3, .cell1 3], lc30⟩
theorem rf30 : resolveFn Tryz.prog 30 = some lf30 := by kernel_rfl
/- excise/exciselaw09.of -/
noncomputable def lc34 : LCode :=
  .seq (
   .region [
     ⟨(some 2), none, .op (.new 29 (.c (.agg (List.replicate 20 (.int .u8 0)))))⟩]) (
   .seq (
    .region [
      ⟨(some 3), none, .op (.new 29 (.c (.agg (List.replicate 20 (.int .u8 0)))))⟩]) (
    .seq (
     .region [
       ⟨(some 4), none, .op (.mov (.t 0))⟩,
       ⟨(some 5), none, .op (.ixA 20 1 (.t 3) (.c (.int .i64 19)))⟩,
       ⟨none, none, .op (.store 1 (.t 5) (.t 4))⟩]) (
     .seq (
      .region [
        ⟨(some 6), none, .op (.loadN 20 (.t 3))⟩,
        ⟨none, none, .op (.store 20 (.t 2) (.t 6))⟩]) (
      .ret))))
noncomputable def lf34 : LFn := ⟨7, [.cellN 2 20], lc34⟩
theorem rf34 : resolveFn Tryz.prog 34 = some lf34 := by kernel_rfl
/- strings.CutPrefix -/
noncomputable def lc52 : LCode :=
  .seq (
   .region [
     ⟨(some 4), none, .op (.mov (.c (.str [])))⟩,
     ⟨(some 5), none, .op (.mov (.c (.bool false)))⟩]) (
   .seq (
    .region [
      ⟨(some 6), none, .op (.mov (.t 0))⟩,
      ⟨(some 7), none, .op (.mov (.t 1))⟩,
      ⟨(some 8), none, .call 104 [(.t 6), (.t 7)]⟩,
      ⟨(some 9), none, .op (.ext 0 (.t 8))⟩,
      ⟨(some 10), none, .op (.ext 1 (.t 8))⟩,
      ⟨(some 4), none, .op (.mov (.t 9))⟩,
      ⟨(some 5), none, .op (.mov (.t 10))⟩]) (
    .ret))
noncomputable def lf52 : LFn := ⟨11, [.tmp 4, .tmp 5], lc52⟩
theorem rf52 : resolveFn Tryz.prog 52 = some lf52 := by kernel_rfl
/- strings.Trim -/
noncomputable def lc53 : LCode :=
  .seq (
   .region [
     ⟨(some 4), none, .op (.mov (.c (.str [])))⟩]) (
   .seq (
    .seq (
     .region [
       ⟨(some 7), none, .op (.mov (.t 0))⟩,
       ⟨(some 8), none, .op (.arith .eql (.t 7) (.c (.str [])))⟩,
       ⟨(some 9), none, .op (.mov (.t 8))⟩,
       ⟨(some 10), (some (9, false)), .op (.mov (.t 1))⟩,
       ⟨(some 11), (some (9, false)), .op (.arith .eql (.t 10) (.c (.str [])))⟩,
       ⟨(some 12), none, .op (.pick (.t 9) (.c (.bool true)) (.t 11))⟩]) (
     .cond (.t 12) (
      .seq (
       .region [
         ⟨(some 13), none, .op (.mov (.t 0))⟩,
         ⟨(some 4), none, .op (.mov (.t 13))⟩]) (
       .ret)) (
      .skip))) (
    .seq (
     .seq (
      .region [
        ⟨(some 14), none, .op (.mov (.t 1))⟩,
        ⟨(some 15), none, .op (.lenStr (.t 14))⟩,
        ⟨(some 16), none, .op (.arith .eql (.t 15) (.c (.int .i64 1)))⟩,
        ⟨(some 17), none, .op (.mov (.t 16))⟩,
        ⟨(some 18), (some (17, true)), .op (.mov (.t 1))⟩,
        ⟨(some 19), (some (17, true)), .op (.ixStr (.t 18) (.c (.int .i64 0)))⟩,
        ⟨(some 20), (some (17, true)), .op (.arith .lss (.t 19) (.c (.int .u8 128)))⟩,
        ⟨(some 21), none, .op (.pick (.t 17) (.t 20) (.c (.bool false)))⟩]) (
      .cond (.t 21) (
       .seq (
        .regionD [22, 23, 24, 25, 26, 27, 28, 4] (
          .free ⟨(some 22), none, .op (.mov (.t 0))⟩ <|
          .free ⟨(some 23), none, .op (.mov (.t 1))⟩ <|
          .free ⟨(some 24), none, .op (.ixStr (.t 23) (.c (.int .i64 0)))⟩ <|
          .free ⟨(some 26), none, .op (.mov (.t 1))⟩ <|
          .free ⟨(some 27), none, .op (.ixStr (.t 26) (.c (.int .i64 0)))⟩ <|
          .eff [] ⟨(some 25), none, .call 106 [(.t 22), (.t 24)]⟩ <|
          .eff [] ⟨(some 28), none, .call 105 [(.t 25), (.t 27)]⟩ <|
          .free ⟨(some 4), none, .op (.mov (.t 28))⟩ <|
          .done)) (
        .ret)) (
       .skip))) (
     .seq (
      .seq (
       .region [
         ⟨(some 30), none, .op (.mov (.t 1))⟩,
         ⟨(some 31), none, .call 107 [(.t 30)]⟩,
         ⟨(some 29), none, .op (.mov (.t 31))⟩,
         ⟨(some 32), none, .op (.ext 0 (.t 29))⟩,
         ⟨(some 33), none, .op (.ext 1 (.t 29))⟩,
         ⟨(some 5), none, .op (.new 168 (.c (.agg (List.replicate 256 (.bool false)))))⟩,
         ⟨none, none, .op (.store 256 (.t 5) (.t 32))⟩,
         ⟨(some 6), none, .op (.mov (.t 33))⟩]) (
       .seq (
        .region [
          ⟨(some 34), none, .op (.mov (.t 6))⟩]) (
        .cond (.t 34) (
         .seq (
          .region [
            ⟨(some 35), none, .op (.mov (.t 0))⟩,
            ⟨(some 36), none, .call 109 [(.t 35), (.t 5)]⟩,
            ⟨(some 37), none, .call 108 [(.t 36), (.t 5)]⟩,
            ⟨(some 4), none, .op (.mov (.t 37))⟩]) (
          .ret)) (
         .skip)))) (
      .seq (
       .region [
         ⟨(some 38), none, .op (.mov (.t 0))⟩,
         ⟨(some 39), none, .op (.mov (.t 1))⟩,
         ⟨(some 40), none, .call 111 [(.t 38), (.t 39)]⟩,
         ⟨(some 41), none, .op (.mov (.t 1))⟩,
         ⟨(some 42), none, .call 110 [(.t 40), (.t 41)]⟩,
         ⟨(some 4), none, .op (.mov (.t 42))⟩]) (
       .ret)))))
noncomputable def lf53 : LFn := ⟨43, [.tmp 4], lc53⟩
theorem rf53 : resolveFn Tryz.prog 53 = some lf53 := by kernel_rfl
/- strings.IndexByte -/
noncomputable def lc54 : LCode :=
  .seq (
   .region [
     ⟨(some 4), none, .op (.mov (.c (.int .i64 0)))⟩]) (
   .seq (
    .region [
      ⟨(some 5), none, .op (.mov (.t 0))⟩,
      ⟨(some 6), none, .op (.mov (.t 1))⟩,
      ⟨(some 7), none, .call 112 [(.t 5), (.t 6)]⟩,
      ⟨(some 4), none, .op (.mov (.t 7))⟩]) (
    .ret))
noncomputable def lf54 : LFn := ⟨8, [.tmp 4], lc54⟩
theorem rf54 : resolveFn Tryz.prog 54 = some lf54 := by kernel_rfl
/- (*strings.Builder).WriteString -/
noncomputable def lc56 : LCode :=
  .seq (
   .region [
     ⟨(some 4), none, .op (.mov (.c (.int .i64 0)))⟩,
     ⟨(some 5), none, .op (.mov (.c (.niliface)))⟩]) (
   .seq (
    .region [
      ⟨(some 6), none, .op (.mov (.t 0))⟩,
      ⟨(some 7), none, .call 113 [(.t 6)]⟩]) (
    .seq (
     .region [
       ⟨(some 8), none, .op (.mov (.t 0))⟩,
       ⟨(some 9), none, .op (.mov (.t 0))⟩,
       ⟨(some 10), none, .op (.nilchk (.t 9))⟩,
       ⟨(some 11), none, .op (.fadd 1 (.t 10))⟩,
       ⟨(some 12), none, .op (.load1 (.t 11))⟩,
       ⟨(some 13), none, .op (.mov (.t 1))⟩,
       ⟨(some 14), none, .op (.app 5 1 1 (.t 12) (.t 13))⟩,
       ⟨(some 15), none, .op (.nilchk (.t 8))⟩,
       ⟨(some 16), none, .op (.fadd 1 (.t 15))⟩,
       ⟨none, none, .op (.store 1 (.t 16) (.t 14))⟩]) (
     .seq (
      .region [
        ⟨(some 17), none, .op (.mov (.t 1))⟩,
        ⟨(some 18), none, .op (.lenStr (.t 17))⟩,
        ⟨(some 4), none, .op (.mov (.t 18))⟩,
        ⟨(some 5), none, .op (.mov (.c (.niliface)))⟩]) (
      .ret))))
noncomputable def lf56 : LFn := ⟨19, [.tmp 4, .tmp 5], lc56⟩
theorem rf56 : resolveFn Tryz.prog 56 = some lf56 := by kernel_rfl
/- (*strings.Builder).String -/
noncomputable def lc58 : LCode :=
  .seq (
   .region [
     ⟨(some 2), none, .op (.mov (.c (.str [])))⟩]) (
   .seq (
    .regionD [3, 4, 5, 6, 7, 8, 9, 10, 11, 12, 13, 2] (
      .free ⟨(some 3), none, .op (.mov (.t 0))⟩ <|
      .free ⟨(some 4), none, .op (.nilchk (.t 3))⟩ <|
      .free ⟨(some 5), none, .op (.fadd 1 (.t 4))⟩ <|
      .load 3 ⟨(some 6), none, .op (.load1 (.t 5))⟩ <|
      .free ⟨(some 7), none, .xop (.uSliceData (.t 6))⟩ <|
      .free ⟨(some 8), none, .op (.mov (.t 0))⟩ <|
      .free ⟨(some 9), none, .op (.nilchk (.t 8))⟩ <|
      .free ⟨(some 10), none, .op (.fadd 1 (.t 9))⟩ <|
      .load 8 ⟨(some 11), none, .op (.load1 (.t 10))⟩ <|
      .free ⟨(some 12), none, .op (.lenS (.t 11))⟩ <|
      .eff [8, 3] ⟨(some 13), none, .xop (.uString 5 (.t 7) (.t 12))⟩ <|
      .free ⟨(some 2), none, .op (.mov (.t 13))⟩ <|
      .done)) (
    .ret))
noncomputable def lf58 : LFn := ⟨14, [.tmp 2], lc58⟩
theorem rf58 : resolveFn Tryz.prog 58 = some lf58 := by kernel_rfl
/- excise/word.Bytes -/
noncomputable def lc62 : LCode :=
  .seq (
   .region [
     ⟨(some 1), none, .op (.new 43 (.t 0))⟩,
     ⟨(some 2), none, .op (.mov (.c (.nilslice)))⟩]) (
   .seq (
    .region [
      ⟨(some 5), none, .op (.mkS 5 1 1 [.int .u8 0] (.c (.int .i64 0)) (.c (.int .i64 32)))⟩,
      ⟨(some 3), none, .op (.mov (.t 5))⟩]) (
    .seq (
     .seq (
      .region [
        ⟨(some 4), none, .op (.mov (.c (.int .i64 31)))⟩]) (
      .block 0 (
       .loop (
        .seq (
         .seq (
          .region [
            ⟨(some 6), none, .op (.mov (.t 4))⟩,
            ⟨(some 7), none, .op (.arith .geq (.t 6) (.c (.int .i64 0)))⟩]) (
          .cond (.t 7) (
           .skip) (
           .exit 0))) (
         .seq (
          .block 1 (
           .region [
             ⟨(some 10), none, .op (.mov (.t 3))⟩,
             ⟨(some 11), none, .op (.mov (.t 4))⟩,
             ⟨(some 12), none, .op (.arith .quo (.t 11) (.c (.int .i64 8)))⟩,
             ⟨(some 13), none, .op (.ixA 4 1 (.t 1) (.t 12))⟩,
             ⟨(some 14), none, .op (.load1 (.t 13))⟩,
             ⟨(some 15), none, .op (.mov (.t 4))⟩,
             ⟨(some 16), none, .op (.arith .rem (.t 15) (.c (.int .i64 8)))⟩,
             ⟨(some 17), none, .op (.arith .mul (.c (.int .i64 8)) (.t 16))⟩,
             ⟨(some 18), none, .op (.arith .shr (.t 14) (.t 17))⟩,
             ⟨(some 19), none, .op (.cvt .u8 (.t 18))⟩,
             ⟨(some 20), none, .op (.buildS 5 1 [.int .u8 0] [(0, 1, (.t 19))])⟩,
             ⟨(some 21), none, .op (.app 5 1 1 (.t 10) (.t 20))⟩,
             ⟨(some 3), none, .op (.mov (.t 21))⟩])) (
          .region [
            ⟨(some 8), none, .op (.mov (.t 4))⟩,
            ⟨(some 9), none, .op (.arith .sub (.t 8) (.c (.int .i64 1)))⟩,
            ⟨(some 4), none, .op (.mov (.t 9))⟩])))))) (
     .seq (
      .region [
        ⟨(some 22), none, .op (.mov (.t 3))⟩,
        ⟨(some 2), none, .op (.mov (.t 22))⟩]) (
      .ret))))
noncomputable def lf62 : LFn := ⟨23, [.tmp 2], lc62⟩
theorem rf62 : resolveFn Tryz.prog 62 = some lf62 := by kernel_rfl
/- strings.CutSuffix -/
noncomputable def lc66 : LCode :=
  .seq (
   .region [
     ⟨(some 4), none, .op (.mov (.c (.str [])))⟩,
     ⟨(some 5), none, .op (.mov (.c (.bool false)))⟩]) (
   .seq (
    .region [
      ⟨(some 6), none, .op (.mov (.t 0))⟩,
      ⟨(some 7), none, .op (.mov (.t 1))⟩,
      ⟨(some 8), none, .call 116 [(.t 6), (.t 7)]⟩,
      ⟨(some 9), none, .op (.ext 0 (.t 8))⟩,
      ⟨(some 10), none, .op (.ext 1 (.t 8))⟩,
      ⟨(some 4), none, .op (.mov (.t 9))⟩,
      ⟨(some 5), none, .op (.mov (.t 10))⟩]) (
    .ret))
noncomputable def lf66 : LFn := ⟨11, [.tmp 4, .tmp 5], lc66⟩
theorem rf66 : resolveFn Tryz.prog 66 = some lf66 := by kernel_rfl
/- strings.Split -/
noncomputable def lc67 : LCode :=
  .seq (
   .region [
     ⟨(some 4), none, .op (.mov (.c (.nilslice)))⟩]) (
   .seq (
    .region [
      ⟨(some 5), none, .op (.mov (.t 0))⟩,
      ⟨(some 6), none, .op (.mov (.t 1))⟩,
      ⟨(some 7), none, .call 117 [(.t 5), (.t 6), (.c (.int .i64 0)), (.c (.int .i64 (-1)))]⟩,
      ⟨(some 4), none, .op (.mov (.t 7))⟩]) (
    .ret))
noncomputable def lf67 : LFn := ⟨8, [.tmp 4], lc67⟩
theorem rf67 : resolveFn Tryz.prog 67 = some lf67 := by kernel_rfl
/- (*excise/policy.reader).line -/
noncomputable def lc68 : LCode :=
  .seq (
   .region [
     ⟨(some 9), none, .op (.mov (.t 0))⟩,
     ⟨(some 10), none, .op (.mov (.t 1))⟩,
     ⟨(some 11), none, .call 67 [(.t 10), (.c (.str [32]))]⟩,
     ⟨(some 12), none, .op (.nilchk (.t 9))⟩,
     ⟨(some 13), none, .op (.fadd 0 (.t 12))⟩,
     ⟨(some 14), none, .op (.fadd 0 (.t 13))⟩,
     ⟨none, none, .op (.store 1 (.t 14) (.t 11))⟩]) (
   .seq (
    .region [
      ⟨(some 15), none, .op (.mov (.t 0))⟩,
      ⟨(some 16), none, .op (.nilchk (.t 15))⟩,
      ⟨(some 17), none, .op (.fadd 0 (.t 16))⟩,
      ⟨(some 18), none, .call 118 [(.t 17)]⟩,
      ⟨(some 6), none, .op (.mov (.t 18))⟩]) (
    .seq (
     .seq (
      .region [
        ⟨(some 19), none, .op (.mov (.t 2))⟩,
        ⟨(some 20), none, .op (.arith .eql (.t 19) (.c (.int .i64 0)))⟩]) (
      .cond (.t 20) (
       .seq (
        .region [
          ⟨(some 21), none, .op (.mov (.t 6))⟩,
          ⟨(some 22), none, .op (.arith .eql (.t 21) (.c (.str [100, 101, 102, 97, 117, 108, 116])))⟩,
          ⟨(some 23), none, .call 65 [(.t 22), (.c (.int .i64 190))]⟩]) (
        .region [
          ⟨(some 24), none, .op (.mov (.t 0))⟩,
          ⟨(some 25), none, .op (.mov (.t 0))⟩,
          ⟨(some 26), none, .op (.nilchk (.t 25))⟩,
          ⟨(some 27), none, .op (.fadd 0 (.t 26))⟩,
          ⟨(some 28), none, .call 118 [(.t 27)]⟩,
          ⟨(some 29), none, .call 120 [(.t 28)]⟩,
          ⟨(some 30), none, .op (.ext 0 (.t 29))⟩,
          ⟨(some 31), none, .op (.ext 1 (.t 29))⟩,
          ⟨(some 32), none, .call 119 [(.t 30), (.t 31)]⟩,
          ⟨(some 33), none, .op (.nilchk (.t 24))⟩,
          ⟨(some 34), none, .op (.fadd 1 (.t 33))⟩,
          ⟨(some 35), none, .op (.fadd 0 (.t 34))⟩,
          ⟨none, none, .op (.store 1 (.t 35) (.t 32))⟩])) (
       .seq (
        .region [
          ⟨(some 37), none, .call 121 []⟩,
          ⟨(some 38), none, .op (.mov (.t 6))⟩,
          ⟨(some 39), none, .xop (.lookup .s true (.nilfunc) (.t 37) (.t 38))⟩,
          ⟨(some 36), none, .op (.mov (.t 39))⟩,
          ⟨(some 40), none, .op (.ext 0 (.t 36))⟩,
          ⟨(some 41), none, .op (.ext 1 (.t 36))⟩,
          ⟨(some 7), none, .op (.mov (.t 40))⟩,
          ⟨(some 8), none, .op (.mov (.t 41))⟩]) (
        .seq (
         .region [
           ⟨(some 42), none, .op (.mov (.t 8))⟩,
           ⟨(some 43), none, .call 65 [(.t 42), (.c (.int .i64 190))]⟩]) (
         .region [
           ⟨(some 44), none, .op (.mov (.t 7))⟩,
           ⟨(some 45), none, .op (.mov (.t 0))⟩,
           ⟨(some 46), none, .callv (.t 44) [(.t 45)]⟩]))))) (
     .region [
       ⟨(some 47), none, .op (.mov (.t 0))⟩,
       ⟨(some 48), none, .op (.nilchk (.t 47))⟩,
       ⟨(some 49), none, .op (.fadd 0 (.t 48))⟩,
       ⟨(some 50), none, .op (.fadd 0 (.t 49))⟩,
       ⟨(some 51), none, .op (.load1 (.t 50))⟩,
       ⟨(some 52), none, .op (.lenS (.t 51))⟩,
       ⟨(some 53), none, .op (.arith .eql (.t 52) (.c (.int .i64 0)))⟩,
       ⟨(some 54), none, .call 65 [(.t 53), (.c (.int .i64 190))]⟩])))
noncomputable def lf68 : LFn := ⟨55, [], lc68⟩
theorem rf68 : resolveFn Tryz.prog 68 = some lf68 := by kernel_rfl
/- internal/stringslite.CutPrefix -/
noncomputable def lc104 : LCode :=
  .seq (
   .region [
     ⟨(some 4), none, .op (.mov (.c (.str [])))⟩,
     ⟨(some 5), none, .op (.mov (.c (.bool false)))⟩]) (
   .seq (
    .seq (
     .region [
       ⟨(some 6), none, .op (.mov (.t 0))⟩,
       ⟨(some 7), none, .op (.mov (.t 1))⟩,
       ⟨(some 8), none, .call 147 [(.t 6), (.t 7)]⟩,
       ⟨(some 9), none, .op (.un .not (.t 8))⟩]) (
     .cond (.t 9) (
      .seq (
       .region [
         ⟨(some 10), none, .op (.mov (.t 0))⟩,
         ⟨(some 4), none, .op (.mov (.t 10))⟩,
         ⟨(some 5), none, .op (.mov (.c (.bool false)))⟩]) (
       .ret)) (
      .skip))) (
    .seq (
     .region [
       ⟨(some 11), none, .op (.mov (.t 0))⟩,
       ⟨(some 12), none, .op (.mov (.t 1))⟩,
       ⟨(some 13), none, .op (.lenStr (.t 12))⟩,
       ⟨(some 14), none, .op (.slStr (.t 11) (some (.t 13)) none)⟩,
       ⟨(some 4), none, .op (.mov (.t 14))⟩,
       ⟨(some 5), none, .op (.mov (.c (.bool true)))⟩]) (
     .ret)))
noncomputable def lf104 : LFn := ⟨15, [.tmp 4, .tmp 5], lc104⟩
theorem rf104 : resolveFn Tryz.prog 104 = some lf104 := by kernel_rfl
/- strings.makeASCIISet -/
noncomputable def lc107 : LCode :=
  .seq (
   .region [
     ⟨(some 2), none, .op (.new 168 (.c (.agg (List.replicate 256 (.bool false)))))⟩,
     ⟨(some 3), none, .op (.mov (.c (.bool false)))⟩]) (
   .seq (
    .seq (
     .region [
       ⟨(some 4), none, .op (.mov (.c (.int .i64 0)))⟩]) (
     .block 0 (
      .loop (
       .seq (
        .seq (
         .region [
           ⟨(some 6), none, .op (.mov (.t 4))⟩,
           ⟨(some 7), none, .op (.mov (.t 0))⟩,
           ⟨(some 8), none, .op (.lenStr (.t 7))⟩,
           ⟨(some 9), none, .op (.arith .lss (.t 6) (.t 8))⟩]) (
         .cond (.t 9) (
          .skip) (
          .exit 0))) (
        .seq (
         .block 1 (
          .seq (
           .region [
             ⟨(some 12), none, .op (.mov (.t 0))⟩,
             ⟨(some 13), none, .op (.mov (.t 4))⟩,
             ⟨(some 14), none, .op (.ixStr (.t 12) (.t 13))⟩,
             ⟨(some 5), none, .op (.mov (.t 14))⟩]) (
           .seq (
            .seq (
             .region [
               ⟨(some 15), none, .op (.mov (.t 5))⟩,
               ⟨(some 16), none, .op (.arith .geq (.t 15) (.c (.int .u8 128)))⟩]) (
             .cond (.t 16) (
              .seq (
               .region [
                 ⟨(some 17), none, .op (.loadN 256 (.t 2))⟩,
                 ⟨none, none, .op (.store 256 (.t 2) (.t 17))⟩,
                 ⟨(some 3), none, .op (.mov (.c (.bool false)))⟩]) (
               .ret)) (
              .skip))) (
            .region [
              ⟨(some 18), none, .op (.mov (.t 5))⟩,
              ⟨(some 19), none, .op (.ixA 256 1 (.t 2) (.t 18))⟩,
              ⟨none, none, .op (.store 1 (.t 19) (.c (.bool true)))⟩])))) (
         .region [
           ⟨(some 10), none, .op (.mov (.t 4))⟩,
           ⟨(some 11), none, .op (.arith .add (.t 10) (.c (.int .i64 1)))⟩,
           ⟨(some 4), none, .op (.mov (.t 11))⟩])))))) (
    .seq (
     .region [
       ⟨(some 20), none, .op (.loadN 256 (.t 2))⟩,
       ⟨none, none, .op (.store 256 (.t 2) (.t 20))⟩,
       ⟨(some 3), none, .op (.mov (.c (.bool true)))⟩]) (
     .ret)))
noncomputable def lf107 : LFn := ⟨21, [.cellN 2 256, .tmp 3], lc107⟩
theorem rf107 : resolveFn Tryz.prog 107 = some lf107 := by kernel_rfl
/- strings.trimLeftASCII -/
noncomputable def lc108 : LCode :=
  .seq (
   .region [
     ⟨(some 4), none, .op (.mov (.c (.str [])))⟩]) (
   .seq (
    .block 0 (
     .loop (
      .seq (
       .seq (
        .region [
          ⟨(some 5), none, .op (.mov (.t 0))⟩,
          ⟨(some 6), none, .op (.lenStr (.t 5))⟩,
          ⟨(some 7), none, .op (.arith .gtr (.t 6) (.c (.int .i64 0)))⟩]) (
        .cond (.t 7) (
         .skip) (
         .exit 0))) (
       .block 1 (
        .seq (
         .seq (
          .region [
            ⟨(some 8), none, .op (.mov (.t 1))⟩,
            ⟨(some 9), none, .op (.mov (.t 0))⟩,
            ⟨(some 10), none, .op (.ixStr (.t 9) (.c (.int .i64 0)))⟩,
            ⟨(some 11), none, .call 148 [(.t 8), (.t 10)]⟩,
            ⟨(some 12), none, .op (.un .not (.t 11))⟩]) (
          .cond (.t 12) (
           .exit 0) (
           .skip))) (
         .region [
           ⟨(some 13), none, .op (.mov (.t 0))⟩,
           ⟨(some 14), none, .op (.slStr (.t 13) (some (.c (.int .i64 1))) none)⟩,
           ⟨(some 0), none, .op (.mov (.t 14))⟩])))))) (
    .seq (
     .region [
       ⟨(some 15), none, .op (.mov (.t 0))⟩,
       ⟨(some 4), none, .op (.mov (.t 15))⟩]) (
     .ret)))
noncomputable def lf108 : LFn := ⟨16, [.tmp 4], lc108⟩
theorem rf108 : resolveFn Tryz.prog 108 = some lf108 := by kernel_rfl
/- strings.trimRightASCII -/
noncomputable def lc109 : LCode :=
  .seq (
   .region [
     ⟨(some 4), none, .op (.mov (.c (.str [])))⟩]) (
   .seq (
    .block 0 (
     .loop (
      .seq (
       .seq (
        .region [
          ⟨(some 5), none, .op (.mov (.t 0))⟩,
          ⟨(some 6), none, .op (.lenStr (.t 5))⟩,
          ⟨(some 7), none, .op (.arith .gtr (.t 6) (.c (.int .i64 0)))⟩]) (
        .cond (.t 7) (
         .skip) (
         .exit 0))) (
       .block 1 (
        .seq (
         .seq (
          .region [
            ⟨(some 8), none, .op (.mov (.t 1))⟩,
            ⟨(some 9), none, .op (.mov (.t 0))⟩,
            ⟨(some 10), none, .op (.mov (.t 0))⟩,
            ⟨(some 11), none, .op (.lenStr (.t 10))⟩,
            ⟨(some 12), none, .op (.arith .sub (.t 11) (.c (.int .i64 1)))⟩,
            ⟨(some 13), none, .op (.ixStr (.t 9) (.t 12))⟩,
            ⟨(some 14), none, .call 148 [(.t 8), (.t 13)]⟩,
            ⟨(some 15), none, .op (.un .not (.t 14))⟩]) (
          .cond (.t 15) (
           .exit 0) (
           .skip))) (
         .region [
           ⟨(some 16), none, .op (.mov (.t 0))⟩,
           ⟨(some 17), none, .op (.mov (.t 0))⟩,
           ⟨(some 18), none, .op (.lenStr (.t 17))⟩,
           ⟨(some 19), none, .op (.arith .sub (.t 18) (.c (.int .i64 1)))⟩,
           ⟨(some 20), none, .op (.slStr (.t 16) none (some (.t 19)))⟩,
           ⟨(some 0), none, .op (.mov (.t 20))⟩])))))) (
    .seq (
     .region [
       ⟨(some 21), none, .op (.mov (.t 0))⟩,
       ⟨(some 4), none, .op (.mov (.t 21))⟩]) (
     .ret)))
noncomputable def lf109 : LFn := ⟨22, [.tmp 4], lc109⟩
theorem rf109 : resolveFn Tryz.prog 109 = some lf109 := by kernel_rfl
/- internal/stringslite.IndexByte -/
noncomputable def lc112 : LCode :=
  .seq (
   .region [
     ⟨(some 4), none, .op (.mov (.c (.int .i64 0)))⟩]) (
   .seq (
    .region [
      ⟨(some 5), none, .op (.mov (.t 0))⟩,
      ⟨(some 6), none, .op (.mov (.t 1))⟩,
      ⟨(some 7), none, .call 152 [(.t 5), (.t 6)]⟩,
      ⟨(some 4), none, .op (.mov (.t 7))⟩]) (
    .ret))
noncomputable def lf112 : LFn := ⟨8, [.tmp 4], lc112⟩
theorem rf112 : resolveFn Tryz.prog 112 = some lf112 := by kernel_rfl
/- (*strings.Builder).copyCheck -/
noncomputable def lc113 : LCode :=
  .seq (
   .region [
     ⟨(some 2), none, .op (.mov (.t 0))⟩,
     ⟨(some 3), none, .op (.nilchk (.t 2))⟩,
     ⟨(some 4), none, .op (.fadd 0 (.t 3))⟩,
     ⟨(some 5), none, .op (.load1 (.t 4))⟩,
     ⟨(some 6), none, .op (.eqN false .ptr (.t 5) (.c (.nilptr)))⟩]) (
   .cond (.t 6) (
    .region [
      ⟨(some 7), none, .op (.mov (.t 0))⟩,
      ⟨(some 8), none, .op (.mov (.t 0))⟩,
      ⟨(some 9), none, .stuck⟩,
      ⟨(some 10), none, .call 153 [(.t 9)]⟩,
      ⟨(some 11), none, .stuck⟩,
      ⟨(some 12), none, .op (.nilchk (.t 7))⟩,
      ⟨(some 13), none, .op (.fadd 0 (.t 12))⟩,
      ⟨none, none, .op (.store 1 (.t 13) (.t 11))⟩]) (
    .seq (
     .region [
       ⟨(some 14), none, .op (.mov (.t 0))⟩,
       ⟨(some 15), none, .op (.nilchk (.t 14))⟩,
       ⟨(some 16), none, .op (.fadd 0 (.t 15))⟩,
       ⟨(some 17), none, .op (.load1 (.t 16))⟩,
       ⟨(some 18), none, .op (.mov (.t 0))⟩,
       ⟨(some 19), none, .op (.eqN true .ptr (.t 17) (.t 18))⟩]) (
     .cond (.t 19) (
      .refuse) (
      .skip))))
noncomputable def lf113 : LFn := ⟨20, [], lc113⟩
theorem rf113 : resolveFn Tryz.prog 113 = some lf113 := by kernel_rfl
/- internal/stringslite.CutSuffix -/
noncomputable def lc116 : LCode :=
  .seq (
   .region [
     ⟨(some 4), none, .op (.mov (.c (.str [])))⟩,
     ⟨(some 5), none, .op (.mov (.c (.bool false)))⟩]) (
   .seq (
    .seq (
     .region [
       ⟨(some 6), none, .op (.mov (.t 0))⟩,
       ⟨(some 7), none, .op (.mov (.t 1))⟩,
       ⟨(some 8), none, .call 154 [(.t 6), (.t 7)]⟩,
       ⟨(some 9), none, .op (.un .not (.t 8))⟩]) (
     .cond (.t 9) (
      .seq (
       .region [
         ⟨(some 10), none, .op (.mov (.t 0))⟩,
         ⟨(some 4), none, .op (.mov (.t 10))⟩,
         ⟨(some 5), none, .op (.mov (.c (.bool false)))⟩]) (
       .ret)) (
      .skip))) (
    .seq (
     .region [
       ⟨(some 11), none, .op (.mov (.t 0))⟩,
       ⟨(some 12), none, .op (.mov (.t 0))⟩,
       ⟨(some 13), none, .op (.lenStr (.t 12))⟩,
       ⟨(some 14), none, .op (.mov (.t 1))⟩,
       ⟨(some 15), none, .op (.lenStr (.t 14))⟩,
       ⟨(some 16), none, .op (.arith .sub (.t 13) (.t 15))⟩,
       ⟨(some 17), none, .op (.slStr (.t 11) none (some (.t 16)))⟩,
       ⟨(some 4), none, .op (.mov (.t 17))⟩,
       ⟨(some 5), none, .op (.mov (.c (.bool true)))⟩]) (
     .ret)))
noncomputable def lf116 : LFn := ⟨18, [.tmp 4, .tmp 5], lc116⟩
theorem rf116 : resolveFn Tryz.prog 116 = some lf116 := by kernel_rfl
/- strings.genSplit -/
noncomputable def lc117 : LCode :=
  .seq (
   .region [
     ⟨(some 8), none, .op (.mov (.c (.nilslice)))⟩]) (
   .seq (
    .seq (
     .region [
       ⟨(some 12), none, .op (.mov (.t 3))⟩,
       ⟨(some 13), none, .op (.arith .eql (.t 12) (.c (.int .i64 0)))⟩]) (
     .cond (.t 13) (
      .seq (
       .region [
         ⟨(some 8), none, .op (.mov (.c (.nilslice)))⟩]) (
       .ret)) (
      .skip))) (
    .seq (
     .seq (
      .region [
        ⟨(some 14), none, .op (.mov (.t 1))⟩,
        ⟨(some 15), none, .op (.arith .eql (.t 14) (.c (.str [])))⟩]) (
      .cond (.t 15) (
       .seq (
        .region [
          ⟨(some 16), none, .op (.mov (.t 0))⟩,
          ⟨(some 17), none, .op (.mov (.t 3))⟩,
          ⟨(some 18), none, .call 155 [(.t 16), (.t 17)]⟩,
          ⟨(some 8), none, .op (.mov (.t 18))⟩]) (
        .ret)) (
       .skip))) (
     .seq (
      .seq (
       .region [
         ⟨(some 19), none, .op (.mov (.t 3))⟩,
         ⟨(some 20), none, .op (.arith .lss (.t 19) (.c (.int .i64 0)))⟩]) (
       .cond (.t 20) (
        .region [
          ⟨(some 21), none, .op (.mov (.t 0))⟩,
          ⟨(some 22), none, .op (.mov (.t 1))⟩,
          ⟨(some 23), none, .call 156 [(.t 21), (.t 22)]⟩,
          ⟨(some 24), none, .op (.arith .add (.t 23) (.c (.int .i64 1)))⟩,
          ⟨(some 3), none, .op (.mov (.t 24))⟩]) (
        .skip))) (
      .seq (
       .region [
         ⟨(some 25), none, .op (.mov (.t 3))⟩,
         ⟨(some 26), none, .op (.mov (.t 0))⟩,
         ⟨(some 27), none, .op (.lenStr (.t 26))⟩,
         ⟨(some 28), none, .op (.arith .add (.t 27) (.c (.int .i64 1)))⟩,
         ⟨(some 29), none, .xop (.minmax false (.t 25) (.t 28))⟩,
         ⟨(some 3), none, .op (.mov (.t 29))⟩]) (
       .seq (
        .region [
          ⟨(some 30), none, .op (.mov (.t 3))⟩,
          ⟨(some 31), none, .op (.mkS 9 1 16 [.str []] (.t 30) (.t 30))⟩,
          ⟨(some 9), none, .op (.mov (.t 31))⟩]) (
        .seq (
         .region [
           ⟨(some 32), none, .op (.mov (.t 3))⟩,
           ⟨(some 33), none, .op (.arith .sub (.t 32) (.c (.int .i64 1)))⟩,
           ⟨(some 3), none, .op (.mov (.t 33))⟩]) (
         .seq (
          .region [
            ⟨(some 10), none, .op (.mov (.c (.int .i64 0)))⟩]) (
          .seq (
           .block 0 (
            .loop (
             .seq (
              .seq (
               .region [
                 ⟨(some 34), none, .op (.mov (.t 10))⟩,
                 ⟨(some 35), none, .op (.mov (.t 3))⟩,
                 ⟨(some 36), none, .op (.arith .lss (.t 34) (.t 35))⟩]) (
               .cond (.t 36) (
                .skip) (
                .exit 0))) (
              .block 1 (
               .seq (
                .region [
                  ⟨(some 37), none, .op (.mov (.t 0))⟩,
                  ⟨(some 38), none, .op (.mov (.t 1))⟩,
                  ⟨(some 39), none, .call 157 [(.t 37), (.t 38)]⟩,
                  ⟨(some 11), none, .op (.mov (.t 39))⟩]) (
                .seq (
                 .seq (
                  .region [
                    ⟨(some 40), none, .op (.mov (.t 11))⟩,
                    ⟨(some 41), none, .op (.arith .lss (.t 40) (.c (.int .i64 0)))⟩]) (
                  .cond (.t 41) (
                   .exit 0) (
                   .skip))) (
                 .seq (
                  .region [
                    ⟨(some 42), none, .op (.mov (.t 9))⟩,
                    ⟨(some 43), none, .op (.mov (.t 10))⟩,
                    ⟨(some 44), none, .op (.mov (.t 0))⟩,
                    ⟨(some 45), none, .op (.mov (.t 11))⟩,
                    ⟨(some 46), none, .op (.mov (.t 2))⟩,
                    ⟨(some 47), none, .op (.arith .add (.t 45) (.t 46))⟩,
                    ⟨(some 48), none, .op (.slStr (.t 44) none (some (.t 47)))⟩,
                    ⟨(some 49), none, .op (.ixS 1 (.t 42) (.t 43))⟩,
                    ⟨none, none, .op (.store 1 (.t 49) (.t 48))⟩]) (
                  .seq (
                   .region [
                     ⟨(some 50), none, .op (.mov (.t 0))⟩,
                     ⟨(some 51), none, .op (.mov (.t 11))⟩,
                     ⟨(some 52), none, .op (.mov (.t 1))⟩,
                     ⟨(some 53), none, .op (.lenStr (.t 52))⟩,
                     ⟨(some 54), none, .op (.arith .add (.t 51) (.t 53))⟩,
                     ⟨(some 55), none, .op (.slStr (.t 50) (some (.t 54)) none)⟩,
                     ⟨(some 0), none, .op (.mov (.t 55))⟩]) (
                   .region [
                     ⟨(some 56), none, .op (.mov (.t 10))⟩,
                     ⟨(some 57), none, .op (.arith .add (.t 56) (.c (.int .i64 1)))⟩,
                     ⟨(some 10), none, .op (.mov (.t 57))⟩]))))))))) (
           .seq (
            .region [
              ⟨(some 58), none, .op (.mov (.t 9))⟩,
              ⟨(some 59), none, .op (.mov (.t 10))⟩,
              ⟨(some 60), none, .op (.mov (.t 0))⟩,
              ⟨(some 61), none, .op (.ixS 1 (.t 58) (.t 59))⟩,
              ⟨none, none, .op (.store 1 (.t 61) (.t 60))⟩]) (
            .seq (
             .region [
               ⟨(some 62), none, .op (.mov (.t 9))⟩,
               ⟨(some 63), none, .op (.mov (.t 10))⟩,
               ⟨(some 64), none, .op (.arith .add (.t 63) (.c (.int .i64 1)))⟩,
               ⟨(some 65), none, .op (.slS 1 (.t 62) none (some (.t 64)) none)⟩,
               ⟨(some 8), none, .op (.mov (.t 65))⟩]) (
             .ret)))))))))))
noncomputable def lf117 : LFn := ⟨66, [.tmp 8], lc117⟩
theorem rf117 : resolveFn Tryz.prog 117 = some lf117 := by kernel_rfl
/- (*excise/policy.words).take -/
noncomputable def lc118 : LCode :=
  .seq (
   .region [
     ⟨(some 2), none, .op (.mov (.c (.str [])))⟩]) (
   .seq (
    .region [
      ⟨(some 4), none, .op (.mov (.t 0))⟩,
      ⟨(some 5), none, .op (.nilchk (.t 4))⟩,
      ⟨(some 6), none, .op (.fadd 0 (.t 5))⟩,
      ⟨(some 7), none, .op (.load1 (.t 6))⟩,
      ⟨(some 8), none, .op (.lenS (.t 7))⟩,
      ⟨(some 9), none, .op (.arith .gtr (.t 8) (.c (.int .i64 0)))⟩,
      ⟨(some 10), none, .call 65 [(.t 9), (.c (.int .i64 190))]⟩]) (
    .seq (
     .region [
       ⟨(some 11), none, .op (.mov (.t 0))⟩,
       ⟨(some 12), none, .op (.nilchk (.t 11))⟩,
       ⟨(some 13), none, .op (.fadd 0 (.t 12))⟩,
       ⟨(some 14), none, .op (.load1 (.t 13))⟩,
       ⟨(some 15), none, .op (.ixS 1 (.t 14) (.c (.int .i64 0)))⟩,
       ⟨(some 16), none, .op (.load1 (.t 15))⟩,
       ⟨(some 3), none, .op (.mov (.t 16))⟩]) (
     .seq (
      .region [
        ⟨(some 17), none, .op (.mov (.t 0))⟩,
        ⟨(some 18), none, .op (.mov (.t 0))⟩,
        ⟨(some 19), none, .op (.nilchk (.t 18))⟩,
        ⟨(some 20), none, .op (.fadd 0 (.t 19))⟩,
        ⟨(some 21), none, .op (.load1 (.t 20))⟩,
        ⟨(some 22), none, .op (.slS 1 (.t 21) (some (.c (.int .i64 1))) none none)⟩,
        ⟨(some 23), none, .op (.nilchk (.t 17))⟩,
        ⟨(some 24), none, .op (.fadd 0 (.t 23))⟩,
        ⟨none, none, .op (.store 1 (.t 24) (.t 22))⟩]) (
      .seq (
       .region [
         ⟨(some 25), none, .op (.mov (.t 3))⟩,
         ⟨(some 2), none, .op (.mov (.t 25))⟩]) (
       .ret)))))
noncomputable def lf118 : LFn := ⟨26, [.tmp 2], lc118⟩
theorem rf118 : resolveFn Tryz.prog 118 = some lf118 := by kernel_rfl
/- excise/policy.got[excise/api.Label] -/
noncomputable def lc119 : LCode :=
  .seq (
   .region [
     ⟨(some 4), none, .op (.mov (.c (.int .u64 0)))⟩]) (
   .seq (
    .region [
      ⟨(some 5), none, .op (.mov (.t 1))⟩,
      ⟨(some 6), none, .op (.arith .eql (.t 5) (.c (.int .i64 0)))⟩,
      ⟨(some 7), none, .call 65 [(.t 6), (.c (.int .i64 190))]⟩]) (
    .seq (
     .region [
       ⟨(some 8), none, .op (.mov (.t 0))⟩,
       ⟨(some 4), none, .op (.mov (.t 8))⟩]) (
     .ret)))
noncomputable def lf119 : LFn := ⟨9, [.tmp 4], lc119⟩
theorem rf119 : resolveFn Tryz.prog 119 = some lf119 := by kernel_rfl
/- excise/label.Parse -/
noncomputable def lc120 : LCode :=
  .seq (
   .region [
     ⟨(some 2), none, .op (.mov (.c (.int .u64 0)))⟩,
     ⟨(some 3), none, .op (.mov (.c (.int .i64 0)))⟩]) (
   .scope (
    .seq (
     .region [
       ⟨(some 4), none, .op (.mov (.c (.int .i64 0)))⟩]) (
     .seq (
      .seq (
       .region [
         ⟨(some 7), none, .op (.mov (.t 0))⟩,
         ⟨(some 8), none, .op (.arith .eql (.t 7) (.c (.str [45])))⟩]) (
       .cond (.t 8) (
        .seq (
         .region [
           ⟨(some 9), none, .op (.mov (.t 2))⟩,
           ⟨(some 2), none, .op (.mov (.t 9))⟩,
           ⟨(some 3), none, .op (.mov (.c (.int .i64 0)))⟩]) (
         .ret)) (
        .skip))) (
      .seq (
       .seq (
        .region [
          ⟨(some 10), none, .op (.mov (.t 0))⟩,
          ⟨(some 11), none, .op (.arith .add (.t 10) (.c (.str [44])))⟩,
          ⟨(some 12), none, .xop (.rangeS (.t 11))⟩]) (
        .block 0 (
         .loop (
          .seq (
           .region [
             ⟨(some 13), none, .xop (.nextS (.t 12))⟩,
             ⟨(some 14), none, .op (.ext 0 (.t 13))⟩]) (
           .seq (
            .cond (.t 14) (
             .skip) (
             .exit 0)) (
            .block 1 (
             .seq (
              .region [
                ⟨(some 15), none, .op (.ext 2 (.t 13))⟩,
                ⟨(some 6), none, .op (.mov (.t 15))⟩]) (
              .block 2 (
               .seq (
                .region [
                  ⟨(some 17), none, .op (.mov (.t 6))⟩,
                  ⟨(some 18), none, .op (.arith .eql (.t 17) (.c (.int .i32 44)))⟩,
                  ⟨(some 16), none, .op (.mov (.t 18))⟩]) (
                .cond (.t 16) (
                 .seq (
                  .seq (
                   .region [
                     ⟨(some 19), none, .op (.mov (.t 4))⟩,
                     ⟨(some 20), none, .op (.arith .gtr (.t 19) (.c (.int .i64 63)))⟩]) (
                   .cond (.t 20) (
                    .goto 0) (
                    .skip))) (
                  .seq (
                   .region [
                     ⟨(some 21), none, .op (.mov (.t 2))⟩,
                     ⟨(some 22), none, .op (.mov (.t 4))⟩,
                     ⟨(some 23), none, .op (.arith .shl (.c (.int .u64 1)) (.t 22))⟩,
                     ⟨(some 24), none, .op (.arith .or (.t 21) (.t 23))⟩,
                     ⟨(some 2), none, .op (.mov (.t 24))⟩]) (
                   .region [
                     ⟨(some 4), none, .op (.mov (.c (.int .i64 0)))⟩]))) (
                 .seq (
                  .region [
                    ⟨(some 26), none, .op (.mov (.t 6))⟩,
                    ⟨(some 27), none, .op (.arith .geq (.t 26) (.c (.int .i32 48)))⟩,
                    ⟨(some 28), none, .op (.mov (.t 27))⟩,
                    ⟨(some 29), (some (28, true)), .op (.mov (.t 6))⟩,
                    ⟨(some 30), (some (28, true)), .op (.arith .leq (.t 29) (.c (.int .i32 57)))⟩,
                    ⟨(some 31), none, .op (.pick (.t 28) (.t 30) (.c (.bool false)))⟩,
                    ⟨(some 32), none, .op (.mov (.t 31))⟩,
                    ⟨(some 33), (some (32, true)), .op (.mov (.t 4))⟩,
                    ⟨(some 34), (some (32, true)), .op (.arith .lss (.t 33) (.c (.int .i64 64)))⟩,
                    ⟨(some 35), none, .op (.pick (.t 32) (.t 34) (.c (.bool false)))⟩,
                    ⟨(some 25), none, .op (.mov (.t 35))⟩]) (
                  .cond (.t 25) (
                   .region [
                     ⟨(some 36), none, .op (.mov (.t 4))⟩,
                     ⟨(some 37), none, .op (.arith .mul (.c (.int .i64 10)) (.t 36))⟩,
                     ⟨(some 38), none, .op (.mov (.t 6))⟩,
                     ⟨(some 39), none, .op (.arith .sub (.t 38) (.c (.int .i32 48)))⟩,
                     ⟨(some 40), none, .op (.cvt .i64 (.t 39))⟩,
                     ⟨(some 41), none, .op (.arith .add (.t 37) (.t 40))⟩,
                     ⟨(some 4), none, .op (.mov (.t 41))⟩]) (
                   .goto 0))))))))))))) (
       .seq (
        .seq (
         .region [
           ⟨(some 42), none, .op (.mov (.t 2))⟩,
           ⟨(some 43), none, .call 125 [(.t 42)]⟩,
           ⟨(some 44), none, .op (.mov (.t 0))⟩,
           ⟨(some 45), none, .op (.arith .eql (.t 43) (.t 44))⟩]) (
         .cond (.t 45) (
          .seq (
           .region [
             ⟨(some 46), none, .op (.mov (.t 2))⟩,
             ⟨(some 2), none, .op (.mov (.t 46))⟩,
             ⟨(some 3), none, .op (.mov (.c (.int .i64 0)))⟩]) (
           .ret)) (
          .skip))) (
        .seq (
         .label 0) (
         .seq (
          .region [
            ⟨(some 2), none, .op (.mov (.c (.int .u64 0)))⟩,
            ⟨(some 3), none, .op (.mov (.c (.int .i64 180)))⟩]) (
          .ret))))))) 0 (
    .seq (
     .skip) (
     .seq (
      .region [
        ⟨(some 2), none, .op (.mov (.c (.int .u64 0)))⟩,
        ⟨(some 3), none, .op (.mov (.c (.int .i64 180)))⟩]) (
      .ret))))
noncomputable def lf120 : LFn := ⟨47, [.tmp 2, .tmp 3], lc120⟩
theorem rf120 : resolveFn Tryz.prog 120 = some lf120 := by kernel_rfl
/- excise/policy.reads -/
noncomputable def lc121 : LCode :=
  .seq (
   .region [
     ⟨(some 0), none, .op (.mov (.c (.nilmap)))⟩]) (
   .seq (
    .region [
      ⟨(some 1), none, .xop (.mkMap)⟩,
      ⟨none, none, .xop (.mapUp .s (.t 1) (.c (.str [99, 108, 101, 97, 114])) (.c (.func (.func 158) [] [])))⟩,
      ⟨none, none, .xop (.mapUp .s (.t 1) (.c (.str [114, 101, 108, 101, 97, 115, 101])) (.c (.func (.func 160) [] [])))⟩,
      ⟨(some 2), none, .op (.mov (.t 1))⟩,
      ⟨(some 0), none, .op (.mov (.t 2))⟩]) (
    .ret))
noncomputable def lf121 : LFn := ⟨3, [.tmp 0], lc121⟩
theorem rf121 : resolveFn Tryz.prog 121 = some lf121 := by kernel_rfl
/- excise/label.Text -/
noncomputable def lc125 : LCode :=
  .seq (
   .region [
     ⟨(some 2), none, .op (.mov (.c (.str [])))⟩]) (
   .scope (
    .seq (
     .region [
       ⟨(some 3), none, .op (.new 71 (.c (.nilslice)))⟩]) (
     .seq (
      .label 0) (
      .seq (
       .seq (
        .region [
          ⟨(some 5), none, .op (.mov (.t 0))⟩,
          ⟨(some 6), none, .call 162 [(.t 5)]⟩]) (
        .block 0 (
         .rangeFunc (.t 6) 22 #[7] (rangeAt Tryz.prog 125 0).1 (rangeAt Tryz.prog 125 0).2 (
          .region [
            ⟨(some 4), none, .op (.mov (.t 7))⟩]) (
          .block 1 (
           .seq (
            .regionD [8, 9, 10, 11, 12] (
              .load 0 ⟨(some 8), none, .op (.load1 (.t 3))⟩ <|
              .free ⟨(some 9), none, .op (.mov (.t 4))⟩ <|
              .eff [] ⟨(some 10), none, .call 142 [(.t 9)]⟩ <|
              .eff [] ⟨(some 11), none, .op (.buildS 9 1 [.str []] [(0, 1, (.t 10))])⟩ <|
              .eff [0] ⟨(some 12), none, .op (.app 9 1 16 (.t 8) (.t 11))⟩ <|
              .eff [0] ⟨none, none, .op (.store 1 (.t 3) (.t 12))⟩ <|
              .done)) (
            .seq (
             .regionD [13, 14, 15, 16] (
               .load 0 ⟨(some 13), none, .op (.load1 (.t 3))⟩ <|
               .free ⟨(some 14), none, .op (.lenS (.t 13))⟩ <|
               .eff [] ⟨(some 15), none, .call 163 [(.c (.int .u64 18446744073709551615))]⟩ <|
               .free ⟨(some 16), none, .op (.arith .gtr (.t 14) (.t 15))⟩ <|
               .done)) (
             .cond (.t 16) (
              .exit 0) (
              .skip)))))))) (
       .seq (
        .seq (
         .region [
           ⟨(some 17), none, .op (.load1 (.t 3))⟩,
           ⟨(some 18), none, .op (.lenS (.t 17))⟩,
           ⟨(some 19), none, .op (.arith .eql (.t 18) (.c (.int .i64 0)))⟩]) (
         .cond (.t 19) (
          .seq (
           .region [
             ⟨(some 2), none, .op (.mov (.c (.str [45])))⟩]) (
           .ret)) (
          .skip))) (
        .seq (
         .region [
           ⟨(some 20), none, .op (.load1 (.t 3))⟩,
           ⟨(some 21), none, .call 126 [(.t 20), (.c (.str [44]))]⟩,
           ⟨(some 2), none, .op (.mov (.t 21))⟩]) (
         .ret)))))) 0 (
    .seq (
     .skip) (
     .seq (
      .seq (
       .region [
         ⟨(some 5), none, .op (.mov (.t 0))⟩,
         ⟨(some 6), none, .call 162 [(.t 5)]⟩]) (
       .block 0 (
        .rangeFunc (.t 6) 22 #[7] (rangeAt Tryz.prog 125 0).1 (rangeAt Tryz.prog 125 0).2 (
         .region [
           ⟨(some 4), none, .op (.mov (.t 7))⟩]) (
         .block 1 (
          .seq (
           .regionD [8, 9, 10, 11, 12] (
             .load 0 ⟨(some 8), none, .op (.load1 (.t 3))⟩ <|
             .free ⟨(some 9), none, .op (.mov (.t 4))⟩ <|
             .eff [] ⟨(some 10), none, .call 142 [(.t 9)]⟩ <|
             .eff [] ⟨(some 11), none, .op (.buildS 9 1 [.str []] [(0, 1, (.t 10))])⟩ <|
             .eff [0] ⟨(some 12), none, .op (.app 9 1 16 (.t 8) (.t 11))⟩ <|
             .eff [0] ⟨none, none, .op (.store 1 (.t 3) (.t 12))⟩ <|
             .done)) (
           .seq (
            .regionD [13, 14, 15, 16] (
              .load 0 ⟨(some 13), none, .op (.load1 (.t 3))⟩ <|
              .free ⟨(some 14), none, .op (.lenS (.t 13))⟩ <|
              .eff [] ⟨(some 15), none, .call 163 [(.c (.int .u64 18446744073709551615))]⟩ <|
              .free ⟨(some 16), none, .op (.arith .gtr (.t 14) (.t 15))⟩ <|
              .done)) (
            .cond (.t 16) (
             .exit 0) (
             .skip)))))))) (
      .seq (
       .seq (
        .region [
          ⟨(some 17), none, .op (.load1 (.t 3))⟩,
          ⟨(some 18), none, .op (.lenS (.t 17))⟩,
          ⟨(some 19), none, .op (.arith .eql (.t 18) (.c (.int .i64 0)))⟩]) (
        .cond (.t 19) (
         .seq (
          .region [
            ⟨(some 2), none, .op (.mov (.c (.str [45])))⟩]) (
          .ret)) (
         .skip))) (
       .seq (
        .region [
          ⟨(some 20), none, .op (.load1 (.t 3))⟩,
          ⟨(some 21), none, .call 126 [(.t 20), (.c (.str [44]))]⟩,
          ⟨(some 2), none, .op (.mov (.t 21))⟩]) (
        .ret))))))
noncomputable def lf125 : LFn := ⟨22, [.tmp 2], lc125⟩
theorem rf125 : resolveFn Tryz.prog 125 = some lf125 := by kernel_rfl
/- strings.Join -/
noncomputable def lc126 : LCode :=
  .seq (
   .region [
     ⟨(some 4), none, .op (.mov (.c (.str [])))⟩]) (
   .seq (
    .seq (
     .region [
       ⟨(some 11), none, .op (.mov (.t 0))⟩,
       ⟨(some 12), none, .op (.lenS (.t 11))⟩]) (
     .block 0 (
      .seq (
       .region [
         ⟨(some 14), none, .op (.arith .eql (.t 12) (.c (.int .i64 0)))⟩,
         ⟨(some 13), none, .op (.mov (.t 14))⟩]) (
       .cond (.t 13) (
        .seq (
         .region [
           ⟨(some 4), none, .op (.mov (.c (.str [])))⟩]) (
         .ret)) (
        .seq (
         .region [
           ⟨(some 16), none, .op (.arith .eql (.t 12) (.c (.int .i64 1)))⟩,
           ⟨(some 15), none, .op (.mov (.t 16))⟩]) (
         .cond (.t 15) (
          .seq (
           .region [
             ⟨(some 17), none, .op (.mov (.t 0))⟩,
             ⟨(some 18), none, .op (.ixS 1 (.t 17) (.c (.int .i64 0)))⟩,
             ⟨(some 19), none, .op (.load1 (.t 18))⟩,
             ⟨(some 4), none, .op (.mov (.t 19))⟩]) (
           .ret)) (
          .skip))))))) (
    .seq (
     .region [
       ⟨(some 5), none, .op (.mov (.c (.int .i64 0)))⟩]) (
     .seq (
      .seq (
       .region [
         ⟨(some 20), none, .op (.mov (.t 1))⟩,
         ⟨(some 21), none, .op (.lenStr (.t 20))⟩,
         ⟨(some 22), none, .op (.arith .gtr (.t 21) (.c (.int .i64 0)))⟩]) (
       .cond (.t 22) (
        .seq (
         .seq (
          .region [
            ⟨(some 23), none, .op (.mov (.t 1))⟩,
            ⟨(some 24), none, .op (.lenStr (.t 23))⟩,
            ⟨(some 25), none, .op (.mov (.t 0))⟩,
            ⟨(some 26), none, .op (.lenS (.t 25))⟩,
            ⟨(some 27), none, .op (.arith .sub (.t 26) (.c (.int .i64 1)))⟩,
            ⟨(some 28), none, .op (.arith .quo (.c (.int .i64 9223372036854775807)) (.t 27))⟩,
            ⟨(some 29), none, .op (.arith .geq (.t 24) (.t 28))⟩]) (
          .cond (.t 29) (
           .region [
             ⟨(some 30), none, .op (.mkI 9 (.c (.str [115, 116, 114, 105, 110, 103, 115, 58, 32, 74, 111, 105, 110, 32, 111, 117, 116, 112, 117, 116, 32, 108, 101, 110, 103, 116, 104, 32, 111, 118, 101, 114, 102, 108, 111, 119])))⟩,
             ⟨none, none, .panic (.t 30)⟩]) (
           .skip))) (
         .region [
           ⟨(some 31), none, .op (.mov (.t 5))⟩,
           ⟨(some 32), none, .op (.mov (.t 1))⟩,
           ⟨(some 33), none, .op (.lenStr (.t 32))⟩,
           ⟨(some 34), none, .op (.mov (.t 0))⟩,
           ⟨(some 35), none, .op (.lenS (.t 34))⟩,
           ⟨(some 36), none, .op (.arith .sub (.t 35) (.c (.int .i64 1)))⟩,
           ⟨(some 37), none, .op (.arith .mul (.t 33) (.t 36))⟩,
           ⟨(some 38), none, .op (.arith .add (.t 31) (.t 37))⟩,
           ⟨(some 5), none, .op (.mov (.t 38))⟩])) (
        .skip))) (
      .seq (
       .seq (
        .region [
          ⟨(some 39), none, .op (.mov (.t 0))⟩,
          ⟨(some 40), none, .op (.lenS (.t 39))⟩,
          ⟨(some 41), none, .op (.mov (.c (.int .i64 0)))⟩]) (
        .block 1 (
         .loop (
          .seq (
           .region [
             ⟨(some 42), none, .op (.arith .lss (.t 41) (.t 40))⟩]) (
           .seq (
            .cond (.t 42) (
             .skip) (
             .exit 1)) (
            .seq (
             .block 2 (
              .seq (
               .region [
                 ⟨(some 43), none, .op (.ixS 1 (.t 39) (.t 41))⟩,
                 ⟨(some 44), none, .op (.load1 (.t 43))⟩,
                 ⟨(some 7), none, .op (.mov (.t 44))⟩]) (
               .seq (
                .seq (
                 .region [
                   ⟨(some 45), none, .op (.mov (.t 7))⟩,
                   ⟨(some 46), none, .op (.lenStr (.t 45))⟩,
                   ⟨(some 47), none, .op (.mov (.t 5))⟩,
                   ⟨(some 48), none, .op (.arith .sub (.c (.int .i64 9223372036854775807)) (.t 47))⟩,
                   ⟨(some 49), none, .op (.arith .gtr (.t 46) (.t 48))⟩]) (
                 .cond (.t 49) (
                  .region [
                    ⟨(some 50), none, .op (.mkI 9 (.c (.str [115, 116, 114, 105, 110, 103, 115, 58, 32, 74, 111, 105, 110, 32, 111, 117, 116, 112, 117, 116, 32, 108, 101, 110, 103, 116, 104, 32, 111, 118, 101, 114, 102, 108, 111, 119])))⟩,
                    ⟨none, none, .panic (.t 50)⟩]) (
                  .skip))) (
                .region [
                  ⟨(some 51), none, .op (.mov (.t 5))⟩,
                  ⟨(some 52), none, .op (.mov (.t 7))⟩,
                  ⟨(some 53), none, .op (.lenStr (.t 52))⟩,
                  ⟨(some 54), none, .op (.arith .add (.t 51) (.t 53))⟩,
                  ⟨(some 5), none, .op (.mov (.t 54))⟩])))) (
             .region [
               ⟨(some 55), none, .op (.arith .add (.t 41) (.c (.int .i64 1)))⟩,
               ⟨(some 41), none, .op (.mov (.t 55))⟩]))))))) (
       .seq (
        .region [
          ⟨(some 8), none, .op (.new 103 (.c (.agg [.nilptr, .nilslice])))⟩]) (
        .seq (
         .region [
           ⟨(some 56), none, .op (.mov (.t 5))⟩,
           ⟨(some 57), none, .call 164 [(.t 8), (.t 56)]⟩]) (
         .seq (
          .region [
            ⟨(some 58), none, .op (.mov (.t 0))⟩,
            ⟨(some 59), none, .op (.ixS 1 (.t 58) (.c (.int .i64 0)))⟩,
            ⟨(some 60), none, .op (.load1 (.t 59))⟩,
            ⟨(some 61), none, .call 56 [(.t 8), (.t 60)]⟩]) (
          .seq (
           .seq (
            .region [
              ⟨(some 62), none, .op (.mov (.t 0))⟩,
              ⟨(some 63), none, .op (.slS 1 (.t 62) (some (.c (.int .i64 1))) none none)⟩,
              ⟨(some 64), none, .op (.lenS (.t 63))⟩,
              ⟨(some 65), none, .op (.mov (.c (.int .i64 0)))⟩]) (
            .block 3 (
             .loop (
              .seq (
               .region [
                 ⟨(some 66), none, .op (.arith .lss (.t 65) (.t 64))⟩]) (
               .seq (
                .cond (.t 66) (
                 .skip) (
                 .exit 3)) (
                .seq (
                 .block 4 (
                  .seq (
                   .region [
                     ⟨(some 67), none, .op (.ixS 1 (.t 63) (.t 65))⟩,
                     ⟨(some 68), none, .op (.load1 (.t 67))⟩,
                     ⟨(some 10), none, .op (.mov (.t 68))⟩]) (
                   .seq (
                    .region [
                      ⟨(some 69), none, .op (.mov (.t 1))⟩,
                      ⟨(some 70), none, .call 56 [(.t 8), (.t 69)]⟩]) (
                    .region [
                      ⟨(some 71), none, .op (.mov (.t 10))⟩,
                      ⟨(some 72), none, .call 56 [(.t 8), (.t 71)]⟩])))) (
                 .region [
                   ⟨(some 73), none, .op (.arith .add (.t 65) (.c (.int .i64 1)))⟩,
                   ⟨(some 65), none, .op (.mov (.t 73))⟩]))))))) (
           .seq (
            .region [
              ⟨(some 74), none, .call 58 [(.t 8)]⟩,
              ⟨(some 4), none, .op (.mov (.t 74))⟩]) (
            .ret))))))))))
noncomputable def lf126 : LFn := ⟨75, [.tmp 4], lc126⟩
theorem rf126 : resolveFn Tryz.prog 126 = some lf126 := by kernel_rfl
/- strconv.FormatUint -/
noncomputable def lc127 : LCode :=
  .seq (
   .region [
     ⟨(some 4), none, .op (.mov (.c (.str [])))⟩]) (
   .seq (
    .region [
      ⟨(some 5), none, .op (.mov (.t 0))⟩,
      ⟨(some 6), none, .op (.mov (.t 1))⟩,
      ⟨(some 7), none, .call 165 [(.t 5), (.t 6)]⟩,
      ⟨(some 4), none, .op (.mov (.t 7))⟩]) (
    .ret))
noncomputable def lf127 : LFn := ⟨8, [.tmp 4], lc127⟩
theorem rf127 : resolveFn Tryz.prog 127 = some lf127 := by kernel_rfl
/- strconv.Itoa -/
noncomputable def lc142 : LCode :=
  .seq (
   .region [
     ⟨(some 2), none, .op (.mov (.c (.str [])))⟩]) (
   .seq (
    .region [
      ⟨(some 3), none, .op (.mov (.t 0))⟩,
      ⟨(some 4), none, .call 167 [(.t 3)]⟩,
      ⟨(some 2), none, .op (.mov (.t 4))⟩]) (
    .ret))
noncomputable def lf142 : LFn := ⟨5, [.tmp 2], lc142⟩
theorem rf142 : resolveFn Tryz.prog 142 = some lf142 := by kernel_rfl
/- internal/stringslite.HasPrefix -/
noncomputable def lc147 : LCode :=
  .seq (
   .region [
     ⟨(some 4), none, .op (.mov (.c (.bool false)))⟩]) (
   .seq (
    .region [
      ⟨(some 5), none, .op (.mov (.t 0))⟩,
      ⟨(some 6), none, .op (.lenStr (.t 5))⟩,
      ⟨(some 7), none, .op (.mov (.t 1))⟩,
      ⟨(some 8), none, .op (.lenStr (.t 7))⟩,
      ⟨(some 9), none, .op (.arith .geq (.t 6) (.t 8))⟩,
      ⟨(some 10), none, .op (.mov (.t 9))⟩,
      ⟨(some 11), (some (10, true)), .op (.mov (.t 0))⟩,
      ⟨(some 12), (some (10, true)), .op (.mov (.t 1))⟩,
      ⟨(some 13), (some (10, true)), .op (.lenStr (.t 12))⟩,
      ⟨(some 14), (some (10, true)), .op (.slStr (.t 11) none (some (.t 13)))⟩,
      ⟨(some 15), (some (10, true)), .op (.mov (.t 1))⟩,
      ⟨(some 16), (some (10, true)), .op (.arith .eql (.t 14) (.t 15))⟩,
      ⟨(some 17), none, .op (.pick (.t 10) (.t 16) (.c (.bool false)))⟩,
      ⟨(some 4), none, .op (.mov (.t 17))⟩]) (
    .ret))
noncomputable def lf147 : LFn := ⟨18, [.tmp 4], lc147⟩
theorem rf147 : resolveFn Tryz.prog 147 = some lf147 := by kernel_rfl
/- (*strings.asciiSet).contains -/
noncomputable def lc148 : LCode :=
  .seq (
   .region [
     ⟨(some 4), none, .op (.mov (.c (.bool false)))⟩]) (
   .seq (
    .region [
      ⟨(some 5), none, .op (.mov (.t 0))⟩,
      ⟨(some 6), none, .op (.mov (.t 1))⟩,
      ⟨(some 7), none, .op (.nilchk (.t 5))⟩,
      ⟨(some 8), none, .op (.ixA 256 1 (.t 7) (.t 6))⟩,
      ⟨(some 9), none, .op (.load1 (.t 8))⟩,
      ⟨(some 4), none, .op (.mov (.t 9))⟩]) (
    .ret))
noncomputable def lf148 : LFn := ⟨10, [.tmp 4], lc148⟩
theorem rf148 : resolveFn Tryz.prog 148 = some lf148 := by kernel_rfl
/- internal/stringslite.HasSuffix -/
noncomputable def lc154 : LCode :=
  .seq (
   .region [
     ⟨(some 4), none, .op (.mov (.c (.bool false)))⟩]) (
   .seq (
    .region [
      ⟨(some 5), none, .op (.mov (.t 0))⟩,
      ⟨(some 6), none, .op (.lenStr (.t 5))⟩,
      ⟨(some 7), none, .op (.mov (.t 1))⟩,
      ⟨(some 8), none, .op (.lenStr (.t 7))⟩,
      ⟨(some 9), none, .op (.arith .geq (.t 6) (.t 8))⟩,
      ⟨(some 10), none, .op (.mov (.t 9))⟩,
      ⟨(some 11), (some (10, true)), .op (.mov (.t 0))⟩,
      ⟨(some 12), (some (10, true)), .op (.mov (.t 0))⟩,
      ⟨(some 13), (some (10, true)), .op (.lenStr (.t 12))⟩,
      ⟨(some 14), (some (10, true)), .op (.mov (.t 1))⟩,
      ⟨(some 15), (some (10, true)), .op (.lenStr (.t 14))⟩,
      ⟨(some 16), (some (10, true)), .op (.arith .sub (.t 13) (.t 15))⟩,
      ⟨(some 17), (some (10, true)), .op (.slStr (.t 11) (some (.t 16)) none)⟩,
      ⟨(some 18), (some (10, true)), .op (.mov (.t 1))⟩,
      ⟨(some 19), (some (10, true)), .op (.arith .eql (.t 17) (.t 18))⟩,
      ⟨(some 20), none, .op (.pick (.t 10) (.t 19) (.c (.bool false)))⟩,
      ⟨(some 4), none, .op (.mov (.t 20))⟩]) (
    .ret))
noncomputable def lf154 : LFn := ⟨21, [.tmp 4], lc154⟩
theorem rf154 : resolveFn Tryz.prog 154 = some lf154 := by kernel_rfl
/- strings.Count -/
noncomputable def lc156 : LCode :=
  .seq (
   .region [
     ⟨(some 4), none, .op (.mov (.c (.int .i64 0)))⟩]) (
   .seq (
    .seq (
     .region [
       ⟨(some 7), none, .op (.mov (.t 1))⟩,
       ⟨(some 8), none, .op (.lenStr (.t 7))⟩,
       ⟨(some 9), none, .op (.arith .eql (.t 8) (.c (.int .i64 0)))⟩]) (
     .cond (.t 9) (
      .seq (
       .region [
         ⟨(some 10), none, .op (.mov (.t 0))⟩,
         ⟨(some 11), none, .call 174 [(.t 10)]⟩,
         ⟨(some 12), none, .op (.arith .add (.t 11) (.c (.int .i64 1)))⟩,
         ⟨(some 4), none, .op (.mov (.t 12))⟩]) (
       .ret)) (
      .skip))) (
    .seq (
     .seq (
      .region [
        ⟨(some 13), none, .op (.mov (.t 1))⟩,
        ⟨(some 14), none, .op (.lenStr (.t 13))⟩,
        ⟨(some 15), none, .op (.arith .eql (.t 14) (.c (.int .i64 1)))⟩]) (
      .cond (.t 15) (
       .seq (
        .region [
          ⟨(some 16), none, .op (.mov (.t 0))⟩,
          ⟨(some 17), none, .op (.mov (.t 1))⟩,
          ⟨(some 18), none, .op (.ixStr (.t 17) (.c (.int .i64 0)))⟩,
          ⟨(some 19), none, .call 175 [(.t 16), (.t 18)]⟩,
          ⟨(some 4), none, .op (.mov (.t 19))⟩]) (
        .ret)) (
       .skip))) (
     .seq (
      .region [
        ⟨(some 5), none, .op (.mov (.c (.int .i64 0)))⟩]) (
      .block 0 (
       .loop (
        .block 1 (
         .seq (
          .region [
            ⟨(some 20), none, .op (.mov (.t 0))⟩,
            ⟨(some 21), none, .op (.mov (.t 1))⟩,
            ⟨(some 22), none, .call 157 [(.t 20), (.t 21)]⟩,
            ⟨(some 6), none, .op (.mov (.t 22))⟩]) (
          .seq (
           .seq (
            .region [
              ⟨(some 23), none, .op (.mov (.t 6))⟩,
              ⟨(some 24), none, .op (.arith .eql (.t 23) (.c (.int .i64 (-1))))⟩]) (
            .cond (.t 24) (
             .seq (
              .region [
                ⟨(some 25), none, .op (.mov (.t 5))⟩,
                ⟨(some 4), none, .op (.mov (.t 25))⟩]) (
              .ret)) (
             .skip))) (
           .seq (
            .region [
              ⟨(some 26), none, .op (.mov (.t 5))⟩,
              ⟨(some 27), none, .op (.arith .add (.t 26) (.c (.int .i64 1)))⟩,
              ⟨(some 5), none, .op (.mov (.t 27))⟩]) (
            .region [
              ⟨(some 28), none, .op (.mov (.t 0))⟩,
              ⟨(some 29), none, .op (.mov (.t 6))⟩,
              ⟨(some 30), none, .op (.mov (.t 1))⟩,
              ⟨(some 31), none, .op (.lenStr (.t 30))⟩,
              ⟨(some 32), none, .op (.arith .add (.t 29) (.t 31))⟩,
              ⟨(some 33), none, .op (.slStr (.t 28) (some (.t 32)) none)⟩,
              ⟨(some 0), none, .op (.mov (.t 33))⟩]))))))))))
noncomputable def lf156 : LFn := ⟨34, [.tmp 4], lc156⟩
theorem rf156 : resolveFn Tryz.prog 156 = some lf156 := by kernel_rfl
/- strings.Index -/
noncomputable def lc157 : LCode :=
  .seq (
   .region [
     ⟨(some 4), none, .op (.mov (.c (.int .i64 0)))⟩]) (
   .seq (
    .region [
      ⟨(some 5), none, .op (.mov (.t 0))⟩,
      ⟨(some 6), none, .op (.mov (.t 1))⟩,
      ⟨(some 7), none, .call 176 [(.t 5), (.t 6)]⟩,
      ⟨(some 4), none, .op (.mov (.t 7))⟩]) (
    .ret))
noncomputable def lf157 : LFn := ⟨8, [.tmp 4], lc157⟩
theorem rf157 : resolveFn Tryz.prog 157 = some lf157 := by kernel_rfl
/- excise/policy.reads$1 -/
noncomputable def lc158 : LCode :=
  .seq (
   .region [
     ⟨(some 3), none, .op (.mov (.t 0))⟩,
     ⟨(some 4), none, .op (.nilchk (.t 3))⟩,
     ⟨(some 5), none, .op (.fadd 1 (.t 4))⟩,
     ⟨(some 6), none, .op (.fadd 2 (.t 5))⟩,
     ⟨(some 7), none, .op (.load1 (.t 6))⟩,
     ⟨(some 8), none, .op (.lenS (.t 7))⟩,
     ⟨(some 9), none, .op (.arith .eql (.t 8) (.c (.int .i64 0)))⟩,
     ⟨(some 10), none, .call 65 [(.t 9), (.c (.int .i64 190))]⟩]) (
   .seq (
    .region [
      ⟨(some 11), none, .op (.mov (.t 0))⟩,
      ⟨(some 12), none, .op (.nilchk (.t 11))⟩,
      ⟨(some 13), none, .op (.fadd 0 (.t 12))⟩,
      ⟨(some 14), none, .call 118 [(.t 13)]⟩,
      ⟨(some 15), none, .call 19 [(.t 14)]⟩,
      ⟨(some 16), none, .op (.ext 0 (.t 15))⟩,
      ⟨(some 17), none, .op (.ext 1 (.t 15))⟩,
      ⟨(some 18), none, .call 159 [(.t 16), (.t 17)]⟩,
      ⟨(some 2), none, .op (.new 29 (.c (.agg (List.replicate 20 (.int .u8 0)))))⟩,
      ⟨none, none, .op (.store 20 (.t 2) (.t 18))⟩]) (
    .regionD [19, 20, 21, 22, 23, 24, 25, 26, 27, 28, 29, 30, 31, 32, 33, 34, 35, 36, 37, 38, 39] (
      .free ⟨(some 19), none, .op (.mov (.t 0))⟩ <|
      .free ⟨(some 20), none, .op (.mov (.t 0))⟩ <|
      .free ⟨(some 21), none, .op (.nilchk (.t 20))⟩ <|
      .free ⟨(some 22), none, .op (.fadd 1 (.t 21))⟩ <|
      .free ⟨(some 23), none, .op (.fadd 1 (.t 22))⟩ <|
      .load 5 ⟨(some 24), none, .op (.load1 (.t 23))⟩ <|
      .load 6 ⟨(some 25), none, .op (.loadN 20 (.t 2))⟩ <|
      .free ⟨(some 26), none, .op (.mov (.t 0))⟩ <|
      .free ⟨(some 27), none, .op (.nilchk (.t 26))⟩ <|
      .free ⟨(some 28), none, .op (.fadd 0 (.t 27))⟩ <|
      .eff [] ⟨(some 29), none, .call 118 [(.t 28)]⟩ <|
      .eff [] ⟨(some 30), none, .call 120 [(.t 29)]⟩ <|
      .free ⟨(some 31), none, .op (.ext 0 (.t 30))⟩ <|
      .free ⟨(some 32), none, .op (.ext 1 (.t 30))⟩ <|
      .eff [] ⟨(some 33), none, .call 119 [(.t 31), (.t 32)]⟩ <|
      .free ⟨(some 34), none, .op (.build (List.replicate 20 (.int .u8 0) ++ [.int .u64 0]) [(0, 20, (.t 25)), (20, 1, (.t 33))])⟩ <|
      .eff [6] ⟨(some 35), none, .op (.buildS 65 1 (List.replicate 20 (.int .u8 0) ++ [.int .u64 0]) [(0, 21, (.t 34))])⟩ <|
      .eff [6, 5] ⟨(some 36), none, .op (.app 65 21 32 (.t 24) (.t 35))⟩ <|
      .free ⟨(some 37), none, .op (.nilchk (.t 19))⟩ <|
      .free ⟨(some 38), none, .op (.fadd 1 (.t 37))⟩ <|
      .free ⟨(some 39), none, .op (.fadd 1 (.t 38))⟩ <|
      .eff [5, 6] ⟨none, none, .op (.store 1 (.t 39) (.t 36))⟩ <|
      .done)))
noncomputable def lf158 : LFn := ⟨40, [], lc158⟩
theorem rf158 : resolveFn Tryz.prog 158 = some lf158 := by kernel_rfl
/- excise/policy.got[excise/api.Address] -/
noncomputable def lc159 : LCode :=
  .seq (
   .region [
     ⟨(some 2), none, .op (.new 29 (.t 0))⟩,
     ⟨(some 4), none, .op (.new 29 (.c (.agg (List.replicate 20 (.int .u8 0)))))⟩]) (
   .seq (
    .region [
      ⟨(some 5), none, .op (.mov (.t 1))⟩,
      ⟨(some 6), none, .op (.arith .eql (.t 5) (.c (.int .i64 0)))⟩,
      ⟨(some 7), none, .call 65 [(.t 6), (.c (.int .i64 190))]⟩]) (
    .seq (
     .region [
       ⟨(some 8), none, .op (.loadN 20 (.t 2))⟩,
       ⟨none, none, .op (.store 20 (.t 4) (.t 8))⟩]) (
     .ret)))
noncomputable def lf159 : LFn := ⟨9, [.cellN 4 20], lc159⟩
theorem rf159 : resolveFn Tryz.prog 159 = some lf159 := by kernel_rfl
/- excise/policy.reads$2 -/
noncomputable def lc160 : LCode :=
  .seq (
   .region [
     ⟨(some 3), none, .op (.mov (.t 0))⟩,
     ⟨(some 4), none, .op (.nilchk (.t 3))⟩,
     ⟨(some 5), none, .op (.fadd 0 (.t 4))⟩,
     ⟨(some 6), none, .call 118 [(.t 5)]⟩,
     ⟨(some 7), none, .call 19 [(.t 6)]⟩,
     ⟨(some 8), none, .op (.ext 0 (.t 7))⟩,
     ⟨(some 9), none, .op (.ext 1 (.t 7))⟩,
     ⟨(some 10), none, .call 159 [(.t 8), (.t 9)]⟩,
     ⟨(some 11), none, .op (.mov (.t 0))⟩,
     ⟨(some 12), none, .call 161 [(.t 11)]⟩,
     ⟨(some 13), none, .op (.build (List.replicate 20 (.int .u8 0) ++ [.int .u32 0, .int .u64 0]) [(0, 20, (.t 10)), (20, 1, (.t 12))])⟩,
     ⟨(some 2), none, .op (.new 67 (.c (.agg (List.replicate 20 (.int .u8 0) ++ [.int .u32 0, .int .u64 0]))))⟩,
     ⟨none, none, .op (.store 22 (.t 2) (.t 13))⟩]) (
   .seq (
    .region [
      ⟨(some 14), none, .op (.mov (.t 0))⟩,
      ⟨(some 15), none, .op (.nilchk (.t 14))⟩,
      ⟨(some 16), none, .op (.fadd 0 (.t 15))⟩,
      ⟨(some 17), none, .call 118 [(.t 16)]⟩,
      ⟨(some 18), none, .call 120 [(.t 17)]⟩,
      ⟨(some 19), none, .op (.ext 0 (.t 18))⟩,
      ⟨(some 20), none, .op (.ext 1 (.t 18))⟩,
      ⟨(some 21), none, .call 119 [(.t 19), (.t 20)]⟩,
      ⟨(some 22), none, .op (.fadd 21 (.t 2))⟩,
      ⟨none, none, .op (.store 1 (.t 22) (.t 21))⟩]) (
    .regionD [23, 24, 25, 26, 27, 28, 29, 30, 31, 32, 33, 34] (
      .free ⟨(some 23), none, .op (.mov (.t 0))⟩ <|
      .free ⟨(some 24), none, .op (.mov (.t 0))⟩ <|
      .free ⟨(some 25), none, .op (.nilchk (.t 24))⟩ <|
      .free ⟨(some 26), none, .op (.fadd 1 (.t 25))⟩ <|
      .free ⟨(some 27), none, .op (.fadd 2 (.t 26))⟩ <|
      .load 5 ⟨(some 28), none, .op (.load1 (.t 27))⟩ <|
      .load 6 ⟨(some 29), none, .op (.loadN 22 (.t 2))⟩ <|
      .eff [6] ⟨(some 30), none, .op (.buildS 67 1 (List.replicate 20 (.int .u8 0) ++ [.int .u32 0, .int .u64 0]) [(0, 22, (.t 29))])⟩ <|
      .eff [6, 5] ⟨(some 31), none, .op (.app 67 22 32 (.t 28) (.t 30))⟩ <|
      .free ⟨(some 32), none, .op (.nilchk (.t 23))⟩ <|
      .free ⟨(some 33), none, .op (.fadd 1 (.t 32))⟩ <|
      .free ⟨(some 34), none, .op (.fadd 2 (.t 33))⟩ <|
      .eff [5, 6] ⟨none, none, .op (.store 1 (.t 34) (.t 31))⟩ <|
      .done)))
noncomputable def lf160 : LFn := ⟨35, [], lc160⟩
theorem rf160 : resolveFn Tryz.prog 160 = some lf160 := by kernel_rfl
/- (*excise/policy.reader).number -/
noncomputable def lc161 : LCode :=
  .seq (
   .region [
     ⟨(some 2), none, .op (.mov (.c (.int .u32 0)))⟩]) (
   .seq (
    .region [
      ⟨(some 6), none, .op (.mov (.t 0))⟩,
      ⟨(some 7), none, .op (.nilchk (.t 6))⟩,
      ⟨(some 8), none, .op (.fadd 0 (.t 7))⟩,
      ⟨(some 9), none, .call 118 [(.t 8)]⟩,
      ⟨(some 3), none, .op (.mov (.t 9))⟩]) (
    .seq (
     .region [
       ⟨(some 11), none, .op (.mov (.t 3))⟩,
       ⟨(some 12), none, .call 177 [(.t 11), (.c (.int .i64 10)), (.c (.int .i64 32))]⟩,
       ⟨(some 10), none, .op (.mov (.t 12))⟩,
       ⟨(some 13), none, .op (.ext 0 (.t 10))⟩,
       ⟨(some 14), none, .op (.ext 1 (.t 10))⟩,
       ⟨(some 4), none, .op (.mov (.t 13))⟩,
       ⟨(some 5), none, .op (.mov (.t 14))⟩]) (
     .seq (
      .region [
        ⟨(some 15), none, .op (.mov (.t 5))⟩,
        ⟨(some 16), none, .op (.eqN false .iface (.t 15) (.c (.niliface)))⟩,
        ⟨(some 17), none, .op (.mov (.t 16))⟩,
        ⟨(some 18), (some (17, true)), .op (.mov (.t 4))⟩,
        ⟨(some 19), (some (17, true)), .call 127 [(.t 18), (.c (.int .i64 10))]⟩,
        ⟨(some 20), (some (17, true)), .op (.mov (.t 3))⟩,
        ⟨(some 21), (some (17, true)), .op (.arith .eql (.t 19) (.t 20))⟩,
        ⟨(some 22), none, .op (.pick (.t 17) (.t 21) (.c (.bool false)))⟩,
        ⟨(some 23), none, .call 65 [(.t 22), (.c (.int .i64 190))]⟩]) (
      .seq (
       .region [
         ⟨(some 24), none, .op (.mov (.t 4))⟩,
         ⟨(some 25), none, .op (.cvt .u32 (.t 24))⟩,
         ⟨(some 2), none, .op (.mov (.t 25))⟩]) (
       .ret)))))
noncomputable def lf161 : LFn := ⟨26, [.tmp 2], lc161⟩
theorem rf161 : resolveFn Tryz.prog 161 = some lf161 := by kernel_rfl
/- excise/label.Members -/
noncomputable def lc162 : LCode :=
  .seq (
   .region [
     ⟨(some 1), none, .op (.new 23 (.t 0))⟩,
     ⟨(some 2), none, .op (.mov (.c (.nilfunc)))⟩]) (
   .seq (
    .region [
      ⟨(some 3), none, .op (.mkF (.func 178) [] [(.t 1)])⟩,
      ⟨(some 2), none, .op (.mov (.t 3))⟩]) (
    .ret))
noncomputable def lf162 : LFn := ⟨4, [.tmp 2], lc162⟩
theorem rf162 : resolveFn Tryz.prog 162 = some lf162 := by kernel_rfl
/- math/bits.Len64 -/
noncomputable def lc163 : LCode :=
  .seq (
   .region [
     ⟨(some 2), none, .op (.mov (.c (.int .i64 0)))⟩]) (
   .seq (
    .seq (
     .region [
       ⟨(some 3), none, .op (.mov (.t 0))⟩,
       ⟨(some 4), none, .op (.arith .geq (.t 3) (.c (.int .u64 4294967296)))⟩]) (
     .cond (.t 4) (
      .seq (
       .region [
         ⟨(some 5), none, .op (.mov (.t 0))⟩,
         ⟨(some 6), none, .op (.arith .shr (.t 5) (.c (.int .u64 32)))⟩,
         ⟨(some 0), none, .op (.mov (.t 6))⟩]) (
       .region [
         ⟨(some 2), none, .op (.mov (.c (.int .i64 32)))⟩])) (
      .skip))) (
    .seq (
     .seq (
      .region [
        ⟨(some 7), none, .op (.mov (.t 0))⟩,
        ⟨(some 8), none, .op (.arith .geq (.t 7) (.c (.int .u64 65536)))⟩]) (
      .cond (.t 8) (
       .seq (
        .region [
          ⟨(some 9), none, .op (.mov (.t 0))⟩,
          ⟨(some 10), none, .op (.arith .shr (.t 9) (.c (.int .u64 16)))⟩,
          ⟨(some 0), none, .op (.mov (.t 10))⟩]) (
        .region [
          ⟨(some 11), none, .op (.mov (.t 2))⟩,
          ⟨(some 12), none, .op (.arith .add (.t 11) (.c (.int .i64 16)))⟩,
          ⟨(some 2), none, .op (.mov (.t 12))⟩])) (
       .skip))) (
     .seq (
      .seq (
       .region [
         ⟨(some 13), none, .op (.mov (.t 0))⟩,
         ⟨(some 14), none, .op (.arith .geq (.t 13) (.c (.int .u64 256)))⟩]) (
       .cond (.t 14) (
        .seq (
         .region [
           ⟨(some 15), none, .op (.mov (.t 0))⟩,
           ⟨(some 16), none, .op (.arith .shr (.t 15) (.c (.int .u64 8)))⟩,
           ⟨(some 0), none, .op (.mov (.t 16))⟩]) (
         .region [
           ⟨(some 17), none, .op (.mov (.t 2))⟩,
           ⟨(some 18), none, .op (.arith .add (.t 17) (.c (.int .i64 8)))⟩,
           ⟨(some 2), none, .op (.mov (.t 18))⟩])) (
        .skip))) (
      .seq (
       .region [
         ⟨(some 19), none, .op (.mov (.t 2))⟩,
         ⟨(some 20), none, .op (.mov (.t 0))⟩,
         ⟨(some 21), none, .op (.cvt .u8 (.t 20))⟩,
         ⟨(some 22), none, .op (.ixStr (.c (.str [0, 1, 2, 2, 3, 3, 3, 3, 4, 4, 4, 4, 4, 4, 4, 4, 5, 5, 5, 5, 5, 5, 5, 5, 5, 5, 5, 5, 5, 5, 5, 5, 6, 6, 6, 6, 6, 6, 6, 6, 6, 6, 6, 6, 6, 6, 6, 6, 6, 6, 6, 6, 6, 6, 6, 6, 6, 6, 6, 6, 6, 6, 6, 6, 7, 7, 7, 7, 7, 7, 7, 7, 7, 7, 7, 7, 7, 7, 7, 7, 7, 7, 7, 7, 7, 7, 7, 7, 7, 7, 7, 7, 7, 7, 7, 7, 7, 7, 7, 7, 7, 7, 7, 7, 7, 7, 7, 7, 7, 7, 7, 7, 7, 7, 7, 7, 7, 7, 7, 7, 7, 7, 7, 7, 7, 7, 7, 7, 8, 8, 8, 8, 8, 8, 8, 8, 8, 8, 8, 8, 8, 8, 8, 8, 8, 8, 8, 8, 8, 8, 8, 8, 8, 8, 8, 8, 8, 8, 8, 8, 8, 8, 8, 8, 8, 8, 8, 8, 8, 8, 8, 8, 8, 8, 8, 8, 8, 8, 8, 8, 8, 8, 8, 8, 8, 8, 8, 8, 8, 8, 8, 8, 8, 8, 8, 8, 8, 8, 8, 8, 8, 8, 8, 8, 8, 8, 8, 8, 8, 8, 8, 8, 8, 8, 8, 8, 8, 8, 8, 8, 8, 8, 8, 8, 8, 8, 8, 8, 8, 8, 8, 8, 8, 8, 8, 8, 8, 8, 8, 8, 8, 8, 8, 8, 8, 8, 8, 8, 8, 8, 8, 8, 8, 8, 8, 8])) (.t 21))⟩,
         ⟨(some 23), none, .op (.cvt .i64 (.t 22))⟩,
         ⟨(some 24), none, .op (.arith .add (.t 19) (.t 23))⟩,
         ⟨(some 2), none, .op (.mov (.t 24))⟩]) (
       .ret)))))
noncomputable def lf163 : LFn := ⟨25, [.tmp 2], lc163⟩
theorem rf163 : resolveFn Tryz.prog 163 = some lf163 := by kernel_rfl
/- (*strings.Builder).Grow -/
noncomputable def lc164 : LCode :=
  .seq (
   .region [
     ⟨(some 4), none, .op (.mov (.t 0))⟩,
     ⟨(some 5), none, .call 113 [(.t 4)]⟩]) (
   .seq (
    .seq (
     .region [
       ⟨(some 6), none, .op (.mov (.t 1))⟩,
       ⟨(some 7), none, .op (.arith .lss (.t 6) (.c (.int .i64 0)))⟩]) (
     .cond (.t 7) (
      .region [
        ⟨(some 8), none, .op (.mkI 9 (.c (.str [115, 116, 114, 105, 110, 103, 115, 46, 66, 117, 105, 108, 100, 101, 114, 46, 71, 114, 111, 119, 58, 32, 110, 101, 103, 97, 116, 105, 118, 101, 32, 99, 111, 117, 110, 116])))⟩,
        ⟨none, none, .panic (.t 8)⟩]) (
      .skip))) (
    .seq (
     .regionD [9, 10, 11, 12, 13, 14, 15, 16, 17, 18, 19, 20, 21] (
       .free ⟨(some 9), none, .op (.mov (.t 0))⟩ <|
       .free ⟨(some 10), none, .op (.nilchk (.t 9))⟩ <|
       .free ⟨(some 11), none, .op (.fadd 1 (.t 10))⟩ <|
       .load 3 ⟨(some 12), none, .op (.load1 (.t 11))⟩ <|
       .free ⟨(some 13), none, .xop (.cap (.t 12))⟩ <|
       .free ⟨(some 14), none, .op (.mov (.t 0))⟩ <|
       .free ⟨(some 15), none, .op (.nilchk (.t 14))⟩ <|
       .free ⟨(some 16), none, .op (.fadd 1 (.t 15))⟩ <|
       .load 8 ⟨(some 17), none, .op (.load1 (.t 16))⟩ <|
       .free ⟨(some 18), none, .op (.lenS (.t 17))⟩ <|
       .free ⟨(some 19), none, .op (.arith .sub (.t 13) (.t 18))⟩ <|
       .free ⟨(some 20), none, .op (.mov (.t 1))⟩ <|
       .free ⟨(some 21), none, .op (.arith .lss (.t 19) (.t 20))⟩ <|
       .done)) (
     .cond (.t 21) (
      .region [
        ⟨(some 22), none, .op (.mov (.t 0))⟩,
        ⟨(some 23), none, .op (.mov (.t 1))⟩,
        ⟨(some 24), none, .call 180 [(.t 22), (.t 23)]⟩]) (
      .skip))))
noncomputable def lf164 : LFn := ⟨25, [], lc164⟩
theorem rf164 : resolveFn Tryz.prog 164 = some lf164 := by kernel_rfl
/- internal/strconv.FormatUint -/
noncomputable def lc165 : LCode :=
  .seq (
   .region [
     ⟨(some 4), none, .op (.mov (.c (.str [])))⟩]) (
   .seq (
    .seq (
     .region [
       ⟨(some 9), none, .op (.mov (.t 1))⟩,
       ⟨(some 10), none, .op (.arith .eql (.t 9) (.c (.int .i64 10)))⟩]) (
     .cond (.t 10) (
      .seq (
       .seq (
        .region [
          ⟨(some 11), none, .op (.mov (.t 0))⟩,
          ⟨(some 12), none, .op (.arith .lss (.t 11) (.c (.int .u64 100)))⟩]) (
        .cond (.t 12) (
         .seq (
          .region [
            ⟨(some 13), none, .op (.mov (.t 0))⟩,
            ⟨(some 14), none, .op (.cvt .i64 (.t 13))⟩,
            ⟨(some 15), none, .call 181 [(.t 14)]⟩,
            ⟨(some 4), none, .op (.mov (.t 15))⟩]) (
          .ret)) (
         .skip))) (
       .seq (
        .region [
          ⟨(some 5), none, .op (.new 236 (.c (.agg (List.replicate 24 (.int .u8 0)))))⟩]) (
        .seq (
         .region [
           ⟨(some 16), none, .op (.mov (.t 0))⟩,
           ⟨(some 17), none, .call 182 [(.t 16)]⟩,
           ⟨(some 6), none, .op (.mov (.t 17))⟩]) (
         .seq (
          .region [
            ⟨(some 18), none, .op (.mov (.t 6))⟩,
            ⟨(some 19), none, .op (.slA 24 1 (.t 5) none (some (.t 18)) none)⟩,
            ⟨(some 20), none, .op (.mov (.t 0))⟩,
            ⟨(some 21), none, .call 183 [(.t 19), (.t 20)]⟩]) (
          .seq (
           .region [
             ⟨(some 22), none, .op (.mov (.t 6))⟩,
             ⟨(some 23), none, .op (.slA 24 1 (.t 5) none (some (.t 22)) none)⟩,
             ⟨(some 24), none, .xop (.b2s (.t 23))⟩,
             ⟨(some 4), none, .op (.mov (.t 24))⟩]) (
           .ret)))))) (
      .skip))) (
    .seq (
     .region [
       ⟨(some 26), none, .op (.mov (.t 0))⟩,
       ⟨(some 27), none, .op (.mov (.t 1))⟩,
       ⟨(some 28), none, .call 184 [(.c (.nilslice)), (.t 26), (.t 27), (.c (.bool false)), (.c (.bool false))]⟩,
       ⟨(some 25), none, .op (.mov (.t 28))⟩,
       ⟨(some 29), none, .op (.ext 0 (.t 25))⟩,
       ⟨(some 30), none, .op (.ext 1 (.t 25))⟩,
       ⟨(some 7), none, .op (.mov (.t 29))⟩,
       ⟨(some 8), none, .op (.mov (.t 30))⟩]) (
     .seq (
      .region [
        ⟨(some 31), none, .op (.mov (.t 8))⟩,
        ⟨(some 4), none, .op (.mov (.t 31))⟩]) (
      .ret))))
noncomputable def lf165 : LFn := ⟨32, [.tmp 4], lc165⟩
theorem rf165 : resolveFn Tryz.prog 165 = some lf165 := by kernel_rfl
/- internal/strconv.Itoa -/
noncomputable def lc167 : LCode :=
  .seq (
   .region [
     ⟨(some 2), none, .op (.mov (.c (.str [])))⟩]) (
   .seq (
    .region [
      ⟨(some 3), none, .op (.mov (.t 0))⟩,
      ⟨(some 4), none, .call 185 [(.t 3), (.c (.int .i64 10))]⟩,
      ⟨(some 2), none, .op (.mov (.t 4))⟩]) (
    .ret))
noncomputable def lf167 : LFn := ⟨5, [.tmp 2], lc167⟩
theorem rf167 : resolveFn Tryz.prog 167 = some lf167 := by kernel_rfl
/- internal/stringslite.Index -/
noncomputable def lc176 : LCode :=
  .seq (
   .region [
     ⟨(some 4), none, .op (.mov (.c (.int .i64 0)))⟩]) (
   .seq (
    .region [
      ⟨(some 14), none, .op (.mov (.t 1))⟩,
      ⟨(some 15), none, .op (.lenStr (.t 14))⟩,
      ⟨(some 5), none, .op (.mov (.t 15))⟩]) (
    .seq (
     .block 0 (
      .seq (
       .region [
         ⟨(some 17), none, .op (.mov (.t 5))⟩,
         ⟨(some 18), none, .op (.arith .eql (.t 17) (.c (.int .i64 0)))⟩,
         ⟨(some 19), none, .op (.mov (.t 18))⟩,
         ⟨(some 20), (some (19, false)), .op (.mov (.t 1))⟩,
         ⟨(some 21), (some (19, false)), .op (.mov (.t 0))⟩,
         ⟨(some 22), (some (19, false)), .op (.arith .eql (.t 20) (.t 21))⟩,
         ⟨(some 23), none, .op (.pick (.t 19) (.c (.bool true)) (.t 22))⟩,
         ⟨(some 16), none, .op (.mov (.t 23))⟩]) (
       .cond (.t 16) (
        .seq (
         .region [
           ⟨(some 4), none, .op (.mov (.c (.int .i64 0)))⟩]) (
         .ret)) (
        .seq (
         .region [
           ⟨(some 25), none, .op (.mov (.t 5))⟩,
           ⟨(some 26), none, .op (.arith .eql (.t 25) (.c (.int .i64 1)))⟩,
           ⟨(some 24), none, .op (.mov (.t 26))⟩]) (
         .cond (.t 24) (
          .seq (
           .region [
             ⟨(some 27), none, .op (.mov (.t 0))⟩,
             ⟨(some 28), none, .op (.mov (.t 1))⟩,
             ⟨(some 29), none, .op (.ixStr (.t 28) (.c (.int .i64 0)))⟩,
             ⟨(some 30), none, .call 112 [(.t 27), (.t 29)]⟩,
             ⟨(some 4), none, .op (.mov (.t 30))⟩]) (
           .ret)) (
          .seq (
           .region [
             ⟨(some 32), none, .op (.mov (.t 5))⟩,
             ⟨(some 33), none, .op (.mov (.t 0))⟩,
             ⟨(some 34), none, .op (.lenStr (.t 33))⟩,
             ⟨(some 35), none, .op (.arith .geq (.t 32) (.t 34))⟩,
             ⟨(some 31), none, .op (.mov (.t 35))⟩]) (
           .cond (.t 31) (
            .seq (
             .region [
               ⟨(some 4), none, .op (.mov (.c (.int .i64 (-1))))⟩]) (
             .ret)) (
            .seq (
             .region [
               ⟨(some 37), none, .op (.mov (.t 5))⟩,
               ⟨(some 38), none, .op (.load1 (.c (.gptr 0 0)))⟩,
               ⟨(some 39), none, .op (.arith .leq (.t 37) (.t 38))⟩,
               ⟨(some 40), none, .op (.mov (.t 39))⟩,
               ⟨(some 41), (some (40, true)), .op (.mov (.t 0))⟩,
               ⟨(some 42), (some (40, true)), .op (.lenStr (.t 41))⟩,
               ⟨(some 43), (some (40, true)), .op (.arith .leq (.t 42) (.c (.int .i64 64)))⟩,
               ⟨(some 44), none, .op (.pick (.t 40) (.t 43) (.c (.bool false)))⟩,
               ⟨(some 36), none, .op (.mov (.t 44))⟩]) (
             .cond (.t 36) (
              .seq (
               .region [
                 ⟨(some 45), none, .op (.mov (.t 0))⟩,
                 ⟨(some 46), none, .op (.mov (.t 1))⟩,
                 ⟨(some 47), none, .call 191 [(.t 45), (.t 46)]⟩,
                 ⟨(some 4), none, .op (.mov (.t 47))⟩]) (
               .ret)) (
              .skip)))))))))) (
     .seq (
      .region [
        ⟨(some 48), none, .op (.mov (.t 1))⟩,
        ⟨(some 49), none, .op (.ixStr (.t 48) (.c (.int .i64 0)))⟩,
        ⟨(some 6), none, .op (.mov (.t 49))⟩]) (
      .seq (
       .region [
         ⟨(some 50), none, .op (.mov (.t 1))⟩,
         ⟨(some 51), none, .op (.ixStr (.t 50) (.c (.int .i64 1)))⟩,
         ⟨(some 7), none, .op (.mov (.t 51))⟩]) (
       .seq (
        .region [
          ⟨(some 8), none, .op (.mov (.c (.int .i64 0)))⟩]) (
        .seq (
         .region [
           ⟨(some 52), none, .op (.mov (.t 0))⟩,
           ⟨(some 53), none, .op (.lenStr (.t 52))⟩,
           ⟨(some 54), none, .op (.mov (.t 5))⟩,
           ⟨(some 55), none, .op (.arith .sub (.t 53) (.t 54))⟩,
           ⟨(some 56), none, .op (.arith .add (.t 55) (.c (.int .i64 1)))⟩,
           ⟨(some 9), none, .op (.mov (.t 56))⟩]) (
         .seq (
          .region [
            ⟨(some 10), none, .op (.mov (.c (.int .i64 0)))⟩]) (
          .seq (
           .block 1 (
            .loop (
             .seq (
              .seq (
               .region [
                 ⟨(some 57), none, .op (.mov (.t 8))⟩,
                 ⟨(some 58), none, .op (.mov (.t 9))⟩,
                 ⟨(some 59), none, .op (.arith .lss (.t 57) (.t 58))⟩]) (
               .cond (.t 59) (
                .skip) (
                .exit 1))) (
              .block 2 (
               .seq (
                .seq (
                 .region [
                   ⟨(some 60), none, .op (.mov (.t 0))⟩,
                   ⟨(some 61), none, .op (.mov (.t 8))⟩,
                   ⟨(some 62), none, .op (.ixStr (.t 60) (.t 61))⟩,
                   ⟨(some 63), none, .op (.mov (.t 6))⟩,
                   ⟨(some 64), none, .op (.arith .neq (.t 62) (.t 63))⟩]) (
                 .cond (.t 64) (
                  .seq (
                   .region [
                     ⟨(some 65), none, .op (.mov (.t 0))⟩,
                     ⟨(some 66), none, .op (.mov (.t 8))⟩,
                     ⟨(some 67), none, .op (.arith .add (.t 66) (.c (.int .i64 1)))⟩,
                     ⟨(some 68), none, .op (.mov (.t 9))⟩,
                     ⟨(some 69), none, .op (.slStr (.t 65) (some (.t 67)) (some (.t 68)))⟩,
                     ⟨(some 70), none, .op (.mov (.t 6))⟩,
                     ⟨(some 71), none, .call 112 [(.t 69), (.t 70)]⟩,
                     ⟨(some 11), none, .op (.mov (.t 71))⟩]) (
                   .seq (
                    .seq (
                     .region [
                       ⟨(some 72), none, .op (.mov (.t 11))⟩,
                       ⟨(some 73), none, .op (.arith .lss (.t 72) (.c (.int .i64 0)))⟩]) (
                     .cond (.t 73) (
                      .seq (
                       .region [
                         ⟨(some 4), none, .op (.mov (.c (.int .i64 (-1))))⟩]) (
                       .ret)) (
                      .skip))) (
                    .region [
                      ⟨(some 74), none, .op (.mov (.t 8))⟩,
                      ⟨(some 75), none, .op (.mov (.t 11))⟩,
                      ⟨(some 76), none, .op (.arith .add (.t 75) (.c (.int .i64 1)))⟩,
                      ⟨(some 77), none, .op (.arith .add (.t 74) (.t 76))⟩,
                      ⟨(some 8), none, .op (.mov (.t 77))⟩]))) (
                  .skip))) (
                .seq (
                 .seq (
                  .region [
                    ⟨(some 78), none, .op (.mov (.t 0))⟩,
                    ⟨(some 79), none, .op (.mov (.t 8))⟩,
                    ⟨(some 80), none, .op (.arith .add (.t 79) (.c (.int .i64 1)))⟩,
                    ⟨(some 81), none, .op (.ixStr (.t 78) (.t 80))⟩,
                    ⟨(some 82), none, .op (.mov (.t 7))⟩,
                    ⟨(some 83), none, .op (.arith .eql (.t 81) (.t 82))⟩,
                    ⟨(some 84), none, .op (.mov (.t 83))⟩,
                    ⟨(some 85), (some (84, true)), .op (.mov (.t 0))⟩,
                    ⟨(some 86), (some (84, true)), .op (.mov (.t 8))⟩,
                    ⟨(some 87), (some (84, true)), .op (.mov (.t 8))⟩,
                    ⟨(some 88), (some (84, true)), .op (.mov (.t 5))⟩,
                    ⟨(some 89), (some (84, true)), .op (.arith .add (.t 87) (.t 88))⟩,
                    ⟨(some 90), (some (84, true)), .op (.slStr (.t 85) (some (.t 86)) (some (.t 89)))⟩,
                    ⟨(some 91), (some (84, true)), .op (.mov (.t 1))⟩,
                    ⟨(some 92), (some (84, true)), .op (.arith .eql (.t 90) (.t 91))⟩,
                    ⟨(some 93), none, .op (.pick (.t 84) (.t 92) (.c (.bool false)))⟩]) (
                  .cond (.t 93) (
                   .seq (
                    .region [
                      ⟨(some 94), none, .op (.mov (.t 8))⟩,
                      ⟨(some 4), none, .op (.mov (.t 94))⟩]) (
                    .ret)) (
                   .skip))) (
                 .seq (
                  .region [
                    ⟨(some 95), none, .op (.mov (.t 8))⟩,
                    ⟨(some 96), none, .op (.arith .add (.t 95) (.c (.int .i64 1)))⟩,
                    ⟨(some 8), none, .op (.mov (.t 96))⟩]) (
                  .seq (
                   .region [
                     ⟨(some 97), none, .op (.mov (.t 10))⟩,
                     ⟨(some 98), none, .op (.arith .add (.t 97) (.c (.int .i64 1)))⟩,
                     ⟨(some 10), none, .op (.mov (.t 98))⟩]) (
                   .seq (
                    .region [
                      ⟨(some 99), none, .op (.mov (.t 5))⟩,
                      ⟨(some 100), none, .op (.load1 (.c (.gptr 0 0)))⟩,
                      ⟨(some 101), none, .op (.arith .leq (.t 99) (.t 100))⟩,
                      ⟨(some 102), none, .op (.mov (.t 101))⟩,
                      ⟨(some 103), (some (102, true)), .op (.mov (.t 10))⟩,
                      ⟨(some 104), (some (102, true)), .op (.mov (.t 8))⟩,
                      ⟨(some 105), (some (102, true)), .call 190 [(.t 104)]⟩,
                      ⟨(some 106), (some (102, true)), .op (.arith .gtr (.t 103) (.t 105))⟩,
                      ⟨(some 107), none, .op (.pick (.t 102) (.t 106) (.c (.bool false)))⟩]) (
                    .cond (.t 107) (
                     .seq (
                      .region [
                        ⟨(some 108), none, .op (.mov (.t 0))⟩,
                        ⟨(some 109), none, .op (.mov (.t 8))⟩,
                        ⟨(some 110), none, .op (.slStr (.t 108) (some (.t 109)) none)⟩,
                        ⟨(some 111), none, .op (.mov (.t 1))⟩,
                        ⟨(some 112), none, .call 191 [(.t 110), (.t 111)]⟩,
                        ⟨(some 12), none, .op (.mov (.t 112))⟩]) (
                      .seq (
                       .seq (
                        .region [
                          ⟨(some 113), none, .op (.mov (.t 12))⟩,
                          ⟨(some 114), none, .op (.arith .geq (.t 113) (.c (.int .i64 0)))⟩]) (
                        .cond (.t 114) (
                         .seq (
                          .region [
                            ⟨(some 115), none, .op (.mov (.t 12))⟩,
                            ⟨(some 116), none, .op (.mov (.t 8))⟩,
                            ⟨(some 117), none, .op (.arith .add (.t 115) (.t 116))⟩,
                            ⟨(some 4), none, .op (.mov (.t 117))⟩]) (
                          .ret)) (
                         .skip))) (
                       .seq (
                        .region [
                          ⟨(some 4), none, .op (.mov (.c (.int .i64 (-1))))⟩]) (
                        .ret)))) (
                     .seq (
                      .region [
                        ⟨(some 118), none, .op (.mov (.t 5))⟩,
                        ⟨(some 119), none, .op (.load1 (.c (.gptr 0 0)))⟩,
                        ⟨(some 120), none, .op (.arith .gtr (.t 118) (.t 119))⟩,
                        ⟨(some 121), none, .op (.mov (.t 120))⟩,
                        ⟨(some 122), (some (121, true)), .op (.mov (.t 10))⟩,
                        ⟨(some 123), (some (121, true)), .op (.mov (.t 8))⟩,
                        ⟨(some 124), (some (121, true)), .op (.arith .shr (.t 123) (.c (.int .u64 4)))⟩,
                        ⟨(some 125), (some (121, true)), .op (.arith .add (.c (.int .i64 4)) (.t 124))⟩,
                        ⟨(some 126), (some (121, true)), .op (.arith .geq (.t 122) (.t 125))⟩,
                        ⟨(some 127), none, .op (.pick (.t 121) (.t 126) (.c (.bool false)))⟩,
                        ⟨(some 128), none, .op (.mov (.t 127))⟩,
                        ⟨(some 129), (some (128, true)), .op (.mov (.t 8))⟩,
                        ⟨(some 130), (some (128, true)), .op (.mov (.t 9))⟩,
                        ⟨(some 131), (some (128, true)), .op (.arith .lss (.t 129) (.t 130))⟩,
                        ⟨(some 132), none, .op (.pick (.t 128) (.t 131) (.c (.bool false)))⟩]) (
                      .cond (.t 132) (
                       .seq (
                        .region [
                          ⟨(some 133), none, .op (.mov (.t 0))⟩,
                          ⟨(some 134), none, .op (.mov (.t 8))⟩,
                          ⟨(some 135), none, .op (.slStr (.t 133) (some (.t 134)) none)⟩,
                          ⟨(some 136), none, .op (.mov (.t 1))⟩,
                          ⟨(some 137), none, .call 192 [(.t 135), (.t 136)]⟩,
                          ⟨(some 13), none, .op (.mov (.t 137))⟩]) (
                        .seq (
                         .seq (
                          .region [
                            ⟨(some 138), none, .op (.mov (.t 13))⟩,
                            ⟨(some 139), none, .op (.arith .lss (.t 138) (.c (.int .i64 0)))⟩]) (
                          .cond (.t 139) (
                           .seq (
                            .region [
                              ⟨(some 4), none, .op (.mov (.c (.int .i64 (-1))))⟩]) (
                            .ret)) (
                           .skip))) (
                         .seq (
                          .region [
                            ⟨(some 140), none, .op (.mov (.t 8))⟩,
                            ⟨(some 141), none, .op (.mov (.t 13))⟩,
                            ⟨(some 142), none, .op (.arith .add (.t 140) (.t 141))⟩,
                            ⟨(some 4), none, .op (.mov (.t 142))⟩]) (
                          .ret)))) (
                       .skip))))))))))))) (
           .seq (
            .region [
              ⟨(some 4), none, .op (.mov (.c (.int .i64 (-1))))⟩]) (
            .ret))))))))))
noncomputable def lf176 : LFn := ⟨143, [.tmp 4], lc176⟩
theorem rf176 : resolveFn Tryz.prog 176 = some lf176 := by kernel_rfl
/- strconv.ParseUint -/
noncomputable def lc177 : LCode :=
  .seq (
   .region [
     ⟨(some 6), none, .op (.mov (.c (.int .u64 0)))⟩,
     ⟨(some 7), none, .op (.mov (.c (.niliface)))⟩]) (
   .seq (
    .region [
      ⟨(some 11), none, .op (.mov (.t 0))⟩,
      ⟨(some 12), none, .op (.mov (.t 1))⟩,
      ⟨(some 13), none, .op (.mov (.t 2))⟩,
      ⟨(some 14), none, .call 193 [(.t 11), (.t 12), (.t 13)]⟩,
      ⟨(some 10), none, .op (.mov (.t 14))⟩,
      ⟨(some 15), none, .op (.ext 0 (.t 10))⟩,
      ⟨(some 16), none, .op (.ext 1 (.t 10))⟩,
      ⟨(some 8), none, .op (.mov (.t 15))⟩,
      ⟨(some 9), none, .op (.mov (.t 16))⟩]) (
    .seq (
     .seq (
      .region [
        ⟨(some 17), none, .op (.mov (.t 9))⟩,
        ⟨(some 18), none, .op (.eqN true .iface (.t 17) (.c (.niliface)))⟩]) (
      .cond (.t 18) (
       .seq (
        .region [
          ⟨(some 19), none, .op (.mov (.t 8))⟩,
          ⟨(some 20), none, .op (.mov (.t 0))⟩,
          ⟨(some 21), none, .op (.mov (.t 1))⟩,
          ⟨(some 22), none, .op (.mov (.t 2))⟩,
          ⟨(some 23), none, .op (.mov (.t 9))⟩,
          ⟨(some 24), none, .call 194 [(.c (.str [80, 97, 114, 115, 101, 85, 105, 110, 116])), (.t 20), (.t 21), (.t 22), (.t 23)]⟩,
          ⟨(some 6), none, .op (.mov (.t 19))⟩,
          ⟨(some 7), none, .op (.mov (.t 24))⟩]) (
        .ret)) (
       .skip))) (
     .seq (
      .region [
        ⟨(some 25), none, .op (.mov (.t 8))⟩,
        ⟨(some 6), none, .op (.mov (.t 25))⟩,
        ⟨(some 7), none, .op (.mov (.c (.niliface)))⟩]) (
      .ret))))
noncomputable def lf177 : LFn := ⟨26, [.tmp 6, .tmp 7], lc177⟩
theorem rf177 : resolveFn Tryz.prog 177 = some lf177 := by kernel_rfl
/- excise/label.Members$1 -/
noncomputable def lc178 : LCode :=
  .seq (
   .region [
     ⟨(some 4), none, .op (.load1 (.t 1))⟩,
     ⟨(some 3), none, .op (.mov (.t 4))⟩]) (
   .block 0 (
    .loop (
     .seq (
      .seq (
       .region [
         ⟨(some 5), none, .op (.mov (.t 3))⟩,
         ⟨(some 6), none, .op (.arith .neq (.t 5) (.c (.int .u64 0)))⟩]) (
       .cond (.t 6) (
        .skip) (
        .exit 0))) (
      .seq (
       .block 1 (
        .seq (
         .region [
           ⟨(some 11), none, .op (.mov (.t 0))⟩,
           ⟨(some 12), none, .op (.mov (.t 3))⟩,
           ⟨(some 13), none, .call 179 [(.t 12)]⟩,
           ⟨(some 14), none, .callv (.t 11) [(.t 13)]⟩,
           ⟨(some 15), none, .op (.un .not (.t 14))⟩]) (
         .cond (.t 15) (
          .ret) (
          .skip)))) (
       .region [
         ⟨(some 7), none, .op (.mov (.t 3))⟩,
         ⟨(some 8), none, .op (.mov (.t 3))⟩,
         ⟨(some 9), none, .op (.arith .sub (.t 8) (.c (.int .u64 1)))⟩,
         ⟨(some 10), none, .op (.arith .and (.t 7) (.t 9))⟩,
         ⟨(some 3), none, .op (.mov (.t 10))⟩])))))
noncomputable def lf178 : LFn := ⟨16, [], lc178⟩
theorem rf178 : resolveFn Tryz.prog 178 = some lf178 := by kernel_rfl
/- math/bits.TrailingZeros64 -/
noncomputable def lc179 : LCode :=
  .seq (
   .region [
     ⟨(some 2), none, .op (.mov (.c (.int .i64 0)))⟩]) (
   .seq (
    .seq (
     .region [
       ⟨(some 3), none, .op (.mov (.t 0))⟩,
       ⟨(some 4), none, .op (.arith .eql (.t 3) (.c (.int .u64 0)))⟩]) (
     .cond (.t 4) (
      .seq (
       .region [
         ⟨(some 2), none, .op (.mov (.c (.int .i64 64)))⟩]) (
       .ret)) (
      .skip))) (
    .seq (
     .region [
       ⟨(some 5), none, .op (.mov (.t 0))⟩,
       ⟨(some 6), none, .op (.mov (.t 0))⟩,
       ⟨(some 7), none, .op (.un .neg (.t 6))⟩,
       ⟨(some 8), none, .op (.arith .and (.t 5) (.t 7))⟩,
       ⟨(some 9), none, .op (.arith .mul (.t 8) (.c (.int .u64 285870213051353865)))⟩,
       ⟨(some 10), none, .op (.arith .shr (.t 9) (.c (.int .u64 58)))⟩,
       ⟨(some 11), none, .op (.ixA 64 1 (.c (.gptr 3 0)) (.t 10))⟩,
       ⟨(some 12), none, .op (.load1 (.t 11))⟩,
       ⟨(some 13), none, .op (.cvt .i64 (.t 12))⟩,
       ⟨(some 2), none, .op (.mov (.t 13))⟩]) (
     .ret)))
noncomputable def lf179 : LFn := ⟨14, [.tmp 2], lc179⟩
theorem rf179 : resolveFn Tryz.prog 179 = some lf179 := by kernel_rfl
/- (*strings.Builder).grow -/
noncomputable def lc180 : LCode :=
  .seq (
   .regionD [5, 6, 7, 8, 9, 10, 11, 12, 13, 14, 15, 16, 17, 18, 19, 4] (
     .free ⟨(some 5), none, .op (.mov (.t 0))⟩ <|
     .free ⟨(some 6), none, .op (.nilchk (.t 5))⟩ <|
     .free ⟨(some 7), none, .op (.fadd 1 (.t 6))⟩ <|
     .load 3 ⟨(some 8), none, .op (.load1 (.t 7))⟩ <|
     .free ⟨(some 9), none, .xop (.cap (.t 8))⟩ <|
     .free ⟨(some 10), none, .op (.arith .mul (.c (.int .i64 2)) (.t 9))⟩ <|
     .free ⟨(some 11), none, .op (.mov (.t 1))⟩ <|
     .free ⟨(some 12), none, .op (.arith .add (.t 10) (.t 11))⟩ <|
     .free ⟨(some 14), none, .op (.mov (.t 0))⟩ <|
     .free ⟨(some 15), none, .op (.nilchk (.t 14))⟩ <|
     .free ⟨(some 16), none, .op (.fadd 1 (.t 15))⟩ <|
     .load 12 ⟨(some 17), none, .op (.load1 (.t 16))⟩ <|
     .free ⟨(some 18), none, .op (.lenS (.t 17))⟩ <|
     .eff [3] ⟨(some 13), none, .call 195 [(.t 12)]⟩ <|
     .free ⟨(some 19), none, .op (.slS 1 (.t 13) none (some (.t 18)) none)⟩ <|
     .free ⟨(some 4), none, .op (.mov (.t 19))⟩ <|
     .done)) (
   .seq (
    .region [
      ⟨(some 20), none, .op (.mov (.t 4))⟩,
      ⟨(some 21), none, .op (.mov (.t 0))⟩,
      ⟨(some 22), none, .op (.nilchk (.t 21))⟩,
      ⟨(some 23), none, .op (.fadd 1 (.t 22))⟩,
      ⟨(some 24), none, .op (.load1 (.t 23))⟩,
      ⟨(some 25), none, .xop (.copy 1 (.t 20) (.t 24))⟩]) (
    .region [
      ⟨(some 26), none, .op (.mov (.t 0))⟩,
      ⟨(some 27), none, .op (.mov (.t 4))⟩,
      ⟨(some 28), none, .op (.nilchk (.t 26))⟩,
      ⟨(some 29), none, .op (.fadd 1 (.t 28))⟩,
      ⟨none, none, .op (.store 1 (.t 29) (.t 27))⟩]))
noncomputable def lf180 : LFn := ⟨30, [], lc180⟩
theorem rf180 : resolveFn Tryz.prog 180 = some lf180 := by kernel_rfl
/- internal/strconv.small -/
noncomputable def lc181 : LCode :=
  .seq (
   .region [
     ⟨(some 2), none, .op (.mov (.c (.str [])))⟩]) (
   .seq (
    .seq (
     .region [
       ⟨(some 3), none, .op (.mov (.t 0))⟩,
       ⟨(some 4), none, .op (.arith .lss (.t 3) (.c (.int .i64 10)))⟩]) (
     .cond (.t 4) (
      .seq (
       .region [
         ⟨(some 5), none, .op (.mov (.t 0))⟩,
         ⟨(some 6), none, .op (.mov (.t 0))⟩,
         ⟨(some 7), none, .op (.arith .add (.t 6) (.c (.int .i64 1)))⟩,
         ⟨(some 8), none, .op (.slStr (.c (.str [48, 49, 50, 51, 52, 53, 54, 55, 56, 57, 97, 98, 99, 100, 101, 102, 103, 104, 105, 106, 107, 108, 109, 110, 111, 112, 113, 114, 115, 116, 117, 118, 119, 120, 121, 122])) (some (.t 5)) (some (.t 7)))⟩,
         ⟨(some 2), none, .op (.mov (.t 8))⟩]) (
       .ret)) (
      .skip))) (
    .seq (
     .region [
       ⟨(some 9), none, .op (.mov (.t 0))⟩,
       ⟨(some 10), none, .op (.arith .mul (.t 9) (.c (.int .i64 2)))⟩,
       ⟨(some 11), none, .op (.mov (.t 0))⟩,
       ⟨(some 12), none, .op (.arith .mul (.t 11) (.c (.int .i64 2)))⟩,
       ⟨(some 13), none, .op (.arith .add (.t 12) (.c (.int .i64 2)))⟩,
       ⟨(some 14), none, .op (.slStr (.c (.str [48, 48, 48, 49, 48, 50, 48, 51, 48, 52, 48, 53, 48, 54, 48, 55, 48, 56, 48, 57, 49, 48, 49, 49, 49, 50, 49, 51, 49, 52, 49, 53, 49, 54, 49, 55, 49, 56, 49, 57, 50, 48, 50, 49, 50, 50, 50, 51, 50, 52, 50, 53, 50, 54, 50, 55, 50, 56, 50, 57, 51, 48, 51, 49, 51, 50, 51, 51, 51, 52, 51, 53, 51, 54, 51, 55, 51, 56, 51, 57, 52, 48, 52, 49, 52, 50, 52, 51, 52, 52, 52, 53, 52, 54, 52, 55, 52, 56, 52, 57, 53, 48, 53, 49, 53, 50, 53, 51, 53, 52, 53, 53, 53, 54, 53, 55, 53, 56, 53, 57, 54, 48, 54, 49, 54, 50, 54, 51, 54, 52, 54, 53, 54, 54, 54, 55, 54, 56, 54, 57, 55, 48, 55, 49, 55, 50, 55, 51, 55, 52, 55, 53, 55, 54, 55, 55, 55, 56, 55, 57, 56, 48, 56, 49, 56, 50, 56, 51, 56, 52, 56, 53, 56, 54, 56, 55, 56, 56, 56, 57, 57, 48, 57, 49, 57, 50, 57, 51, 57, 52, 57, 53, 57, 54, 57, 55, 57, 56, 57, 57])) (some (.t 10)) (some (.t 13)))⟩,
       ⟨(some 2), none, .op (.mov (.t 14))⟩]) (
     .ret)))
noncomputable def lf181 : LFn := ⟨15, [.tmp 2], lc181⟩
theorem rf181 : resolveFn Tryz.prog 181 = some lf181 := by kernel_rfl
/- internal/strconv.FormatInt -/
noncomputable def lc185 : LCode :=
  .seq (
   .region [
     ⟨(some 4), none, .op (.mov (.c (.str [])))⟩]) (
   .seq (
    .seq (
     .region [
       ⟨(some 10), none, .op (.mov (.t 1))⟩,
       ⟨(some 11), none, .op (.arith .eql (.t 10) (.c (.int .i64 10)))⟩]) (
     .cond (.t 11) (
      .seq (
       .seq (
        .region [
          ⟨(some 12), none, .op (.mov (.t 0))⟩,
          ⟨(some 13), none, .op (.arith .leq (.c (.int .i64 0)) (.t 12))⟩,
          ⟨(some 14), none, .op (.mov (.t 13))⟩,
          ⟨(some 15), (some (14, true)), .op (.mov (.t 0))⟩,
          ⟨(some 16), (some (14, true)), .op (.arith .lss (.t 15) (.c (.int .i64 100)))⟩,
          ⟨(some 17), none, .op (.pick (.t 14) (.t 16) (.c (.bool false)))⟩]) (
        .cond (.t 17) (
         .seq (
          .region [
            ⟨(some 18), none, .op (.mov (.t 0))⟩,
            ⟨(some 19), none, .call 181 [(.t 18)]⟩,
            ⟨(some 4), none, .op (.mov (.t 19))⟩]) (
          .ret)) (
         .skip))) (
       .seq (
        .region [
          ⟨(some 5), none, .op (.new 236 (.c (.agg (List.replicate 24 (.int .u8 0)))))⟩]) (
        .seq (
         .region [
           ⟨(some 20), none, .op (.mov (.t 0))⟩,
           ⟨(some 21), none, .op (.cvt .u64 (.t 20))⟩,
           ⟨(some 6), none, .op (.mov (.t 21))⟩]) (
         .seq (
          .seq (
           .region [
             ⟨(some 22), none, .op (.mov (.t 0))⟩,
             ⟨(some 23), none, .op (.arith .lss (.t 22) (.c (.int .i64 0)))⟩]) (
           .cond (.t 23) (
            .region [
              ⟨(some 24), none, .op (.mov (.t 6))⟩,
              ⟨(some 25), none, .op (.un .neg (.t 24))⟩,
              ⟨(some 6), none, .op (.mov (.t 25))⟩]) (
            .skip))) (
          .seq (
           .region [
             ⟨(some 26), none, .op (.mov (.t 6))⟩,
             ⟨(some 27), none, .call 182 [(.t 26)]⟩,
             ⟨(some 7), none, .op (.mov (.t 27))⟩]) (
           .seq (
            .region [
              ⟨(some 28), none, .op (.mov (.t 7))⟩,
              ⟨(some 29), none, .op (.arith .add (.c (.int .i64 1)) (.t 28))⟩,
              ⟨(some 30), none, .op (.slA 24 1 (.t 5) (some (.c (.int .i64 1))) (some (.t 29)) none)⟩,
              ⟨(some 31), none, .op (.mov (.t 6))⟩,
              ⟨(some 32), none, .call 183 [(.t 30), (.t 31)]⟩]) (
            .seq (
             .seq (
              .region [
                ⟨(some 33), none, .op (.mov (.t 0))⟩,
                ⟨(some 34), none, .op (.arith .lss (.t 33) (.c (.int .i64 0)))⟩]) (
              .cond (.t 34) (
               .seq (
                .region [
                  ⟨(some 35), none, .op (.ixA 24 1 (.t 5) (.c (.int .i64 0)))⟩,
                  ⟨none, none, .op (.store 1 (.t 35) (.c (.int .u8 45)))⟩]) (
                .seq (
                 .region [
                   ⟨(some 36), none, .op (.mov (.t 7))⟩,
                   ⟨(some 37), none, .op (.arith .add (.c (.int .i64 1)) (.t 36))⟩,
                   ⟨(some 38), none, .op (.slA 24 1 (.t 5) none (some (.t 37)) none)⟩,
                   ⟨(some 39), none, .xop (.b2s (.t 38))⟩,
                   ⟨(some 4), none, .op (.mov (.t 39))⟩]) (
                 .ret))) (
               .skip))) (
             .seq (
              .region [
                ⟨(some 40), none, .op (.mov (.t 7))⟩,
                ⟨(some 41), none, .op (.arith .add (.c (.int .i64 1)) (.t 40))⟩,
                ⟨(some 42), none, .op (.slA 24 1 (.t 5) (some (.c (.int .i64 1))) (some (.t 41)) none)⟩,
                ⟨(some 43), none, .xop (.b2s (.t 42))⟩,
                ⟨(some 4), none, .op (.mov (.t 43))⟩]) (
              .ret))))))))) (
      .skip))) (
    .seq (
     .region [
       ⟨(some 45), none, .op (.mov (.t 0))⟩,
       ⟨(some 46), none, .op (.cvt .u64 (.t 45))⟩,
       ⟨(some 47), none, .op (.mov (.t 1))⟩,
       ⟨(some 48), none, .op (.mov (.t 0))⟩,
       ⟨(some 49), none, .op (.arith .lss (.t 48) (.c (.int .i64 0)))⟩,
       ⟨(some 50), none, .call 184 [(.c (.nilslice)), (.t 46), (.t 47), (.t 49), (.c (.bool false))]⟩,
       ⟨(some 44), none, .op (.mov (.t 50))⟩,
       ⟨(some 51), none, .op (.ext 0 (.t 44))⟩,
       ⟨(some 52), none, .op (.ext 1 (.t 44))⟩,
       ⟨(some 8), none, .op (.mov (.t 51))⟩,
       ⟨(some 9), none, .op (.mov (.t 52))⟩]) (
     .seq (
      .region [
        ⟨(some 53), none, .op (.mov (.t 9))⟩,
        ⟨(some 4), none, .op (.mov (.t 53))⟩]) (
      .ret))))
noncomputable def lf185 : LFn := ⟨54, [.tmp 4], lc185⟩
theorem rf185 : resolveFn Tryz.prog 185 = some lf185 := by kernel_rfl
/- internal/strconv.ParseUint -/
noncomputable def lc193 : LCode :=
  .seq (
   .region [
     ⟨(some 6), none, .op (.mov (.c (.int .u64 0)))⟩,
     ⟨(some 7), none, .op (.mov (.c (.niliface)))⟩]) (
   .seq (
    .seq (
     .region [
       ⟨(some 18), none, .op (.mov (.t 0))⟩,
       ⟨(some 19), none, .op (.arith .eql (.t 18) (.c (.str [])))⟩]) (
     .cond (.t 19) (
      .seq (
       .region [
         ⟨(some 20), none, .op (.mkI 267 (.c (.int .i64 2)))⟩,
         ⟨(some 6), none, .op (.mov (.c (.int .u64 0)))⟩,
         ⟨(some 7), none, .op (.mov (.t 20))⟩]) (
       .ret)) (
      .skip))) (
    .seq (
     .region [
       ⟨(some 21), none, .op (.mov (.t 1))⟩,
       ⟨(some 22), none, .op (.arith .eql (.t 21) (.c (.int .i64 0)))⟩,
       ⟨(some 8), none, .op (.mov (.t 22))⟩]) (
     .seq (
      .region [
        ⟨(some 23), none, .op (.mov (.t 0))⟩,
        ⟨(some 9), none, .op (.mov (.t 23))⟩]) (
      .seq (
       .block 0 (
        .seq (
         .region [
           ⟨(some 26), none, .op (.mov (.t 1))⟩,
           ⟨(some 27), none, .op (.arith .leq (.c (.int .i64 2)) (.t 26))⟩,
           ⟨(some 28), none, .op (.mov (.t 27))⟩,
           ⟨(some 29), (some (28, true)), .op (.mov (.t 1))⟩,
           ⟨(some 30), (some (28, true)), .op (.arith .leq (.t 29) (.c (.int .i64 36)))⟩,
           ⟨(some 31), none, .op (.pick (.t 28) (.t 30) (.c (.bool false)))⟩,
           ⟨(some 25), none, .op (.mov (.t 31))⟩]) (
         .cond (.t 25) (
          .skip) (
          .seq (
           .region [
             ⟨(some 33), none, .op (.mov (.t 1))⟩,
             ⟨(some 34), none, .op (.arith .eql (.t 33) (.c (.int .i64 0)))⟩,
             ⟨(some 32), none, .op (.mov (.t 34))⟩]) (
           .cond (.t 32) (
            .seq (
             .region [
               ⟨(some 1), none, .op (.mov (.c (.int .i64 10)))⟩]) (
             .seq (
              .region [
                ⟨(some 35), none, .op (.mov (.t 0))⟩,
                ⟨(some 36), none, .op (.ixStr (.t 35) (.c (.int .i64 0)))⟩,
                ⟨(some 37), none, .op (.arith .eql (.t 36) (.c (.int .u8 48)))⟩]) (
              .cond (.t 37) (
               .block 1 (
                .seq (
                 .region [
                   ⟨(some 41), none, .op (.mov (.t 0))⟩,
                   ⟨(some 42), none, .op (.lenStr (.t 41))⟩,
                   ⟨(some 43), none, .op (.arith .geq (.t 42) (.c (.int .i64 3)))⟩,
                   ⟨(some 44), none, .op (.mov (.t 43))⟩,
                   ⟨(some 45), (some (44, true)), .op (.mov (.t 0))⟩,
                   ⟨(some 46), (some (44, true)), .op (.ixStr (.t 45) (.c (.int .i64 1)))⟩,
                   ⟨(some 47), (some (44, true)), .call 211 [(.t 46)]⟩,
                   ⟨(some 48), (some (44, true)), .op (.arith .eql (.t 47) (.c (.int .u8 98)))⟩,
                   ⟨(some 49), none, .op (.pick (.t 44) (.t 48) (.c (.bool false)))⟩,
                   ⟨(some 40), none, .op (.mov (.t 49))⟩]) (
                 .cond (.t 40) (
                  .seq (
                   .region [
                     ⟨(some 1), none, .op (.mov (.c (.int .i64 2)))⟩]) (
                   .region [
                     ⟨(some 50), none, .op (.mov (.t 0))⟩,
                     ⟨(some 51), none, .op (.slStr (.t 50) (some (.c (.int .i64 2))) none)⟩,
                     ⟨(some 0), none, .op (.mov (.t 51))⟩])) (
                  .seq (
                   .region [
                     ⟨(some 53), none, .op (.mov (.t 0))⟩,
                     ⟨(some 54), none, .op (.lenStr (.t 53))⟩,
                     ⟨(some 55), none, .op (.arith .geq (.t 54) (.c (.int .i64 3)))⟩,
                     ⟨(some 56), none, .op (.mov (.t 55))⟩,
                     ⟨(some 57), (some (56, true)), .op (.mov (.t 0))⟩,
                     ⟨(some 58), (some (56, true)), .op (.ixStr (.t 57) (.c (.int .i64 1)))⟩,
                     ⟨(some 59), (some (56, true)), .call 211 [(.t 58)]⟩,
                     ⟨(some 60), (some (56, true)), .op (.arith .eql (.t 59) (.c (.int .u8 111)))⟩,
                     ⟨(some 61), none, .op (.pick (.t 56) (.t 60) (.c (.bool false)))⟩,
                     ⟨(some 52), none, .op (.mov (.t 61))⟩]) (
                   .cond (.t 52) (
                    .seq (
                     .region [
                       ⟨(some 1), none, .op (.mov (.c (.int .i64 8)))⟩]) (
                     .region [
                       ⟨(some 62), none, .op (.mov (.t 0))⟩,
                       ⟨(some 63), none, .op (.slStr (.t 62) (some (.c (.int .i64 2))) none)⟩,
                       ⟨(some 0), none, .op (.mov (.t 63))⟩])) (
                    .seq (
                     .region [
                       ⟨(some 65), none, .op (.mov (.t 0))⟩,
                       ⟨(some 66), none, .op (.lenStr (.t 65))⟩,
                       ⟨(some 67), none, .op (.arith .geq (.t 66) (.c (.int .i64 3)))⟩,
                       ⟨(some 68), none, .op (.mov (.t 67))⟩,
                       ⟨(some 69), (some (68, true)), .op (.mov (.t 0))⟩,
                       ⟨(some 70), (some (68, true)), .op (.ixStr (.t 69) (.c (.int .i64 1)))⟩,
                       ⟨(some 71), (some (68, true)), .call 211 [(.t 70)]⟩,
                       ⟨(some 72), (some (68, true)), .op (.arith .eql (.t 71) (.c (.int .u8 120)))⟩,
                       ⟨(some 73), none, .op (.pick (.t 68) (.t 72) (.c (.bool false)))⟩,
                       ⟨(some 64), none, .op (.mov (.t 73))⟩]) (
                     .cond (.t 64) (
                      .seq (
                       .region [
                         ⟨(some 1), none, .op (.mov (.c (.int .i64 16)))⟩]) (
                       .region [
                         ⟨(some 74), none, .op (.mov (.t 0))⟩,
                         ⟨(some 75), none, .op (.slStr (.t 74) (some (.c (.int .i64 2))) none)⟩,
                         ⟨(some 0), none, .op (.mov (.t 75))⟩])) (
                      .seq (
                       .region [
                         ⟨(some 1), none, .op (.mov (.c (.int .i64 8)))⟩]) (
                       .region [
                         ⟨(some 38), none, .op (.mov (.t 0))⟩,
                         ⟨(some 39), none, .op (.slStr (.t 38) (some (.c (.int .i64 1))) none)⟩,
                         ⟨(some 0), none, .op (.mov (.t 39))⟩]))))))))) (
               .skip)))) (
            .seq (
             .region [
               ⟨(some 24), none, .op (.mkI 267 (.c (.int .i64 3)))⟩,
               ⟨(some 6), none, .op (.mov (.c (.int .u64 0)))⟩,
               ⟨(some 7), none, .op (.mov (.t 24))⟩]) (
             .ret))))))) (
       .seq (
        .seq (
         .region [
           ⟨(some 76), none, .op (.mov (.t 2))⟩,
           ⟨(some 77), none, .op (.arith .eql (.t 76) (.c (.int .i64 0)))⟩]) (
         .cond (.t 77) (
          .region [
            ⟨(some 2), none, .op (.mov (.c (.int .i64 64)))⟩]) (
          .seq (
           .region [
             ⟨(some 78), none, .op (.mov (.t 2))⟩,
             ⟨(some 79), none, .op (.arith .lss (.t 78) (.c (.int .i64 0)))⟩,
             ⟨(some 80), none, .op (.mov (.t 79))⟩,
             ⟨(some 81), (some (80, false)), .op (.mov (.t 2))⟩,
             ⟨(some 82), (some (80, false)), .op (.arith .gtr (.t 81) (.c (.int .i64 64)))⟩,
             ⟨(some 83), none, .op (.pick (.t 80) (.c (.bool true)) (.t 82))⟩]) (
           .cond (.t 83) (
            .seq (
             .region [
               ⟨(some 84), none, .op (.mkI 267 (.c (.int .i64 4)))⟩,
               ⟨(some 6), none, .op (.mov (.c (.int .u64 0)))⟩,
               ⟨(some 7), none, .op (.mov (.t 84))⟩]) (
             .ret)) (
            .skip))))) (
        .seq (
         .region [
           ⟨(some 10), none, .op (.mov (.c (.int .u64 0)))⟩]) (
         .seq (
          .seq (
           .region [
             ⟨(some 85), none, .op (.mov (.t 1))⟩]) (
           .block 2 (
            .seq (
             .region [
               ⟨(some 91), none, .op (.arith .eql (.t 85) (.c (.int .i64 10)))⟩,
               ⟨(some 90), none, .op (.mov (.t 91))⟩]) (
             .cond (.t 90) (
              .region [
                ⟨(some 10), none, .op (.mov (.c (.int .u64 1844674407370955162)))⟩]) (
              .seq (
               .region [
                 ⟨(some 93), none, .op (.arith .eql (.t 85) (.c (.int .i64 16)))⟩,
                 ⟨(some 92), none, .op (.mov (.t 93))⟩]) (
               .cond (.t 92) (
                .region [
                  ⟨(some 10), none, .op (.mov (.c (.int .u64 1152921504606846976)))⟩]) (
                .region [
                  ⟨(some 86), none, .op (.mov (.t 1))⟩,
                  ⟨(some 87), none, .op (.cvt .u64 (.t 86))⟩,
                  ⟨(some 88), none, .op (.arith .quo (.c (.int .u64 18446744073709551615)) (.t 87))⟩,
                  ⟨(some 89), none, .op (.arith .add (.t 88) (.c (.int .u64 1)))⟩,
                  ⟨(some 10), none, .op (.mov (.t 89))⟩]))))))) (
          .seq (
           .region [
             ⟨(some 94), none, .op (.mov (.t 2))⟩,
             ⟨(some 95), none, .op (.cvt .u64 (.t 94))⟩,
             ⟨(some 96), none, .op (.arith .shl (.c (.int .u64 1)) (.t 95))⟩,
             ⟨(some 97), none, .op (.arith .sub (.t 96) (.c (.int .u64 1)))⟩,
             ⟨(some 11), none, .op (.mov (.t 97))⟩]) (
           .seq (
            .region [
              ⟨(some 12), none, .op (.mov (.c (.bool false)))⟩]) (
            .seq (
             .region [
               ⟨(some 13), none, .op (.mov (.c (.int .u64 0)))⟩]) (
             .seq (
              .seq (
               .region [
                 ⟨(some 98), none, .op (.mov (.t 0))⟩,
                 ⟨(some 99), none, .xop (.s2b (.t 98))⟩,
                 ⟨(some 100), none, .op (.lenS (.t 99))⟩,
                 ⟨(some 101), none, .op (.mov (.c (.int .i64 0)))⟩]) (
               .block 3 (
                .loop (
                 .seq (
                  .region [
                    ⟨(some 102), none, .op (.arith .lss (.t 101) (.t 100))⟩]) (
                  .seq (
                   .cond (.t 102) (
                    .skip) (
                    .exit 3)) (
                   .seq (
                    .block 4 (
                     .seq (
                      .region [
                        ⟨(some 103), none, .op (.ixS 1 (.t 99) (.t 101))⟩,
                        ⟨(some 104), none, .op (.load1 (.t 103))⟩,
                        ⟨(some 15), none, .op (.mov (.t 104))⟩]) (
                      .seq (
                       .region [
                         ⟨(some 16), none, .op (.mov (.c (.int .u8 0)))⟩]) (
                       .seq (
                        .block 5 (
                         .seq (
                          .region [
                            ⟨(some 107), none, .op (.mov (.t 15))⟩,
                            ⟨(some 108), none, .op (.arith .eql (.t 107) (.c (.int .u8 95)))⟩,
                            ⟨(some 109), none, .op (.mov (.t 108))⟩,
                            ⟨(some 110), (some (109, true)), .op (.mov (.t 8))⟩,
                            ⟨(some 111), none, .op (.pick (.t 109) (.t 110) (.c (.bool false)))⟩,
                            ⟨(some 106), none, .op (.mov (.t 111))⟩]) (
                          .cond (.t 106) (
                           .seq (
                            .region [
                              ⟨(some 12), none, .op (.mov (.c (.bool true)))⟩]) (
                            .exit 4)) (
                           .seq (
                            .region [
                              ⟨(some 113), none, .op (.mov (.t 15))⟩,
                              ⟨(some 114), none, .op (.arith .leq (.c (.int .u8 48)) (.t 113))⟩,
                              ⟨(some 115), none, .op (.mov (.t 114))⟩,
                              ⟨(some 116), (some (115, true)), .op (.mov (.t 15))⟩,
                              ⟨(some 117), (some (115, true)), .op (.arith .leq (.t 116) (.c (.int .u8 57)))⟩,
                              ⟨(some 118), none, .op (.pick (.t 115) (.t 117) (.c (.bool false)))⟩,
                              ⟨(some 112), none, .op (.mov (.t 118))⟩]) (
                            .cond (.t 112) (
                             .region [
                               ⟨(some 119), none, .op (.mov (.t 15))⟩,
                               ⟨(some 120), none, .op (.arith .sub (.t 119) (.c (.int .u8 48)))⟩,
                               ⟨(some 16), none, .op (.mov (.t 120))⟩]) (
                             .seq (
                              .region [
                                ⟨(some 122), none, .op (.mov (.t 15))⟩,
                                ⟨(some 123), none, .call 211 [(.t 122)]⟩,
                                ⟨(some 124), none, .op (.arith .leq (.c (.int .u8 97)) (.t 123))⟩,
                                ⟨(some 125), none, .op (.mov (.t 124))⟩,
                                ⟨(some 126), (some (125, true)), .op (.mov (.t 15))⟩,
                                ⟨(some 127), (some (125, true)), .call 211 [(.t 126)]⟩,
                                ⟨(some 128), (some (125, true)), .op (.arith .leq (.t 127) (.c (.int .u8 122)))⟩,
                                ⟨(some 129), none, .op (.pick (.t 125) (.t 128) (.c (.bool false)))⟩,
                                ⟨(some 121), none, .op (.mov (.t 129))⟩]) (
                              .cond (.t 121) (
                               .region [
                                 ⟨(some 130), none, .op (.mov (.t 15))⟩,
                                 ⟨(some 131), none, .call 211 [(.t 130)]⟩,
                                 ⟨(some 132), none, .op (.arith .sub (.t 131) (.c (.int .u8 97)))⟩,
                                 ⟨(some 133), none, .op (.arith .add (.t 132) (.c (.int .u8 10)))⟩,
                                 ⟨(some 16), none, .op (.mov (.t 133))⟩]) (
                               .seq (
                                .region [
                                  ⟨(some 105), none, .op (.mkI 267 (.c (.int .i64 2)))⟩,
                                  ⟨(some 6), none, .op (.mov (.c (.int .u64 0)))⟩,
                                  ⟨(some 7), none, .op (.mov (.t 105))⟩]) (
                                .ret))))))))) (
                        .seq (
                         .seq (
                          .region [
                            ⟨(some 134), none, .op (.mov (.t 16))⟩,
                            ⟨(some 135), none, .op (.mov (.t 1))⟩,
                            ⟨(some 136), none, .op (.cvt .u8 (.t 135))⟩,
                            ⟨(some 137), none, .op (.arith .geq (.t 134) (.t 136))⟩]) (
                          .cond (.t 137) (
                           .seq (
                            .region [
                              ⟨(some 138), none, .op (.mkI 267 (.c (.int .i64 2)))⟩,
                              ⟨(some 6), none, .op (.mov (.c (.int .u64 0)))⟩,
                              ⟨(some 7), none, .op (.mov (.t 138))⟩]) (
                            .ret)) (
                           .skip))) (
                         .seq (
                          .seq (
                           .region [
                             ⟨(some 139), none, .op (.mov (.t 13))⟩,
                             ⟨(some 140), none, .op (.mov (.t 10))⟩,
                             ⟨(some 141), none, .op (.arith .geq (.t 139) (.t 140))⟩]) (
                           .cond (.t 141) (
                            .seq (
                             .region [
                               ⟨(some 142), none, .op (.mov (.t 11))⟩,
                               ⟨(some 143), none, .op (.mkI 267 (.c (.int .i64 1)))⟩,
                               ⟨(some 6), none, .op (.mov (.t 142))⟩,
                               ⟨(some 7), none, .op (.mov (.t 143))⟩]) (
                             .ret)) (
                            .skip))) (
                          .seq (
                           .region [
                             ⟨(some 144), none, .op (.mov (.t 13))⟩,
                             ⟨(some 145), none, .op (.mov (.t 1))⟩,
                             ⟨(some 146), none, .op (.cvt .u64 (.t 145))⟩,
                             ⟨(some 147), none, .op (.arith .mul (.t 144) (.t 146))⟩,
                             ⟨(some 13), none, .op (.mov (.t 147))⟩]) (
                           .seq (
                            .region [
                              ⟨(some 148), none, .op (.mov (.t 13))⟩,
                              ⟨(some 149), none, .op (.mov (.t 16))⟩,
                              ⟨(some 150), none, .op (.cvt .u64 (.t 149))⟩,
                              ⟨(some 151), none, .op (.arith .add (.t 148) (.t 150))⟩,
                              ⟨(some 17), none, .op (.mov (.t 151))⟩]) (
                            .seq (
                             .seq (
                              .region [
                                ⟨(some 152), none, .op (.mov (.t 17))⟩,
                                ⟨(some 153), none, .op (.mov (.t 13))⟩,
                                ⟨(some 154), none, .op (.arith .lss (.t 152) (.t 153))⟩,
                                ⟨(some 155), none, .op (.mov (.t 154))⟩,
                                ⟨(some 156), (some (155, false)), .op (.mov (.t 17))⟩,
                                ⟨(some 157), (some (155, false)), .op (.mov (.t 11))⟩,
                                ⟨(some 158), (some (155, false)), .op (.arith .gtr (.t 156) (.t 157))⟩,
                                ⟨(some 159), none, .op (.pick (.t 155) (.c (.bool true)) (.t 158))⟩]) (
                              .cond (.t 159) (
                               .seq (
                                .region [
                                  ⟨(some 160), none, .op (.mov (.t 11))⟩,
                                  ⟨(some 161), none, .op (.mkI 267 (.c (.int .i64 1)))⟩,
                                  ⟨(some 6), none, .op (.mov (.t 160))⟩,
                                  ⟨(some 7), none, .op (.mov (.t 161))⟩]) (
                                .ret)) (
                               .skip))) (
                             .region [
                               ⟨(some 162), none, .op (.mov (.t 17))⟩,
                               ⟨(some 13), none, .op (.mov (.t 162))⟩])))))))))) (
                    .region [
                      ⟨(some 163), none, .op (.arith .add (.t 101) (.c (.int .i64 1)))⟩,
                      ⟨(some 101), none, .op (.mov (.t 163))⟩]))))))) (
              .seq (
               .seq (
                .region [
                  ⟨(some 164), none, .op (.mov (.t 12))⟩,
                  ⟨(some 165), none, .op (.mov (.t 164))⟩,
                  ⟨(some 166), (some (165, true)), .op (.mov (.t 9))⟩,
                  ⟨(some 167), (some (165, true)), .call 212 [(.t 166)]⟩,
                  ⟨(some 168), (some (165, true)), .op (.un .not (.t 167))⟩,
                  ⟨(some 169), none, .op (.pick (.t 165) (.t 168) (.c (.bool false)))⟩]) (
                .cond (.t 169) (
                 .seq (
                  .region [
                    ⟨(some 170), none, .op (.mkI 267 (.c (.int .i64 2)))⟩,
                    ⟨(some 6), none, .op (.mov (.c (.int .u64 0)))⟩,
                    ⟨(some 7), none, .op (.mov (.t 170))⟩]) (
                  .ret)) (
                 .skip))) (
               .seq (
                .region [
                  ⟨(some 171), none, .op (.mov (.t 13))⟩,
                  ⟨(some 6), none, .op (.mov (.t 171))⟩,
                  ⟨(some 7), none, .op (.mov (.c (.niliface)))⟩]) (
                .ret))))))))))))))
noncomputable def lf193 : LFn := ⟨172, [.tmp 6, .tmp 7], lc193⟩
theorem rf193 : resolveFn Tryz.prog 193 = some lf193 := by kernel_rfl
end Go.Proofs
