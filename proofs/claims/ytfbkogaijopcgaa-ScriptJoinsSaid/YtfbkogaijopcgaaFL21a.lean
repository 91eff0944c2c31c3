/-
  OWN WORK (an AI agent). Part L21a of a walk by simplification over abstract heaps.
-/
import Derived.Test.YtfbkogaijopcgaaFP
import Derived.Test.YtfbkogaijopcgaaProg
import Derived.KernelRfl
set_option linter.all false
namespace Go.Proofs.Ytfbkogaijopcgaa
open Go.F

/-- jacquard/jacquardlaw21.ScriptJoins -/
def c3 : FC :=
  .seq (.ops [
    ⟨(some 4), none, .mov (.val (.bool false))⟩])
  (.seq (.seq (.ops [
    ⟨(some 15), none, .mov (.tmp 0)⟩,
    ⟨(some 16), none, .len false (.tmp 15)⟩,
    ⟨(some 17), none, .bin .gtr .other (.tmp 16) (.val (.int .i64 3000))⟩,
    ⟨(some 18), none, .mov (.tmp 17)⟩,
    ⟨(some 19), some (18, false), .mov (.tmp 1)⟩,
    ⟨(some 20), some (18, false), .len false (.tmp 19)⟩,
    ⟨(some 21), some (18, false), .bin .gtr .other (.tmp 20) (.val (.int .i64 3000))⟩,
    ⟨(some 22), none, .pick (.tmp 18) (.val (.bool true)) (.tmp 21)⟩])
  (.cond (.tmp 22)
   (.seq (.ops [
      ⟨(some 23), none, .call (.val (.fn 5 [])) []⟩,
      ⟨(some 4), none, .mov (.tmp 23)⟩])
    (.ret))
   (.skip)))
  (.seq (.ops [
    ⟨(some 25), none, .mov (.tmp 0)⟩,
    ⟨(some 26), none, .call (.val (.fn 6 [])) [(.tmp 25)]⟩,
    ⟨(some 24), none, .mov (.tmp 26)⟩,
    ⟨(some 27), none, .extract (.tmp 24) 0⟩,
    ⟨(some 28), none, .extract (.tmp 24) 1⟩,
    ⟨(some 29), none, .extract (.tmp 24) 2⟩,
    ⟨(some 5), none, .alloc 27 [.nils, .nils]⟩,
    ⟨none, none, .store 2 (.tmp 5) (.tmp 27)⟩,
    ⟨(some 6), none, .mov (.tmp 28)⟩,
    ⟨(some 7), none, .mov (.tmp 29)⟩])
  (.seq (.ops [
    ⟨(some 31), none, .mov (.tmp 1)⟩,
    ⟨(some 32), none, .call (.val (.fn 6 [])) [(.tmp 31)]⟩,
    ⟨(some 30), none, .mov (.tmp 32)⟩,
    ⟨(some 33), none, .extract (.tmp 30) 0⟩,
    ⟨(some 34), none, .extract (.tmp 30) 1⟩,
    ⟨(some 35), none, .extract (.tmp 30) 2⟩,
    ⟨(some 8), none, .alloc 27 [.nils, .nils]⟩,
    ⟨none, none, .store 2 (.tmp 8) (.tmp 33)⟩,
    ⟨(some 9), none, .mov (.tmp 34)⟩,
    ⟨(some 10), none, .mov (.tmp 35)⟩])
  (.seq (.ops [
    ⟨(some 37), none, .bslice 5 1 [] 0 []⟩,
    ⟨(some 38), none, .mov (.tmp 0)⟩,
    ⟨(some 39), none, .append 5 1 1 (.tmp 37) (.tmp 38)⟩,
    ⟨(some 40), none, .mov (.tmp 1)⟩,
    ⟨(some 41), none, .append 5 1 1 (.tmp 39) (.tmp 40)⟩,
    ⟨(some 42), none, .call (.val (.fn 6 [])) [(.tmp 41)]⟩,
    ⟨(some 36), none, .mov (.tmp 42)⟩,
    ⟨(some 43), none, .extract (.tmp 36) 0⟩,
    ⟨(some 44), none, .extract (.tmp 36) 1⟩,
    ⟨(some 45), none, .extract (.tmp 36) 2⟩,
    ⟨(some 11), none, .alloc 27 [.nils, .nils]⟩,
    ⟨none, none, .store 2 (.tmp 11) (.tmp 43)⟩,
    ⟨(some 12), none, .mov (.tmp 44)⟩,
    ⟨(some 13), none, .mov (.tmp 45)⟩])
  (.seq (.seq (.ops [
    ⟨(some 46), none, .mov (.tmp 6)⟩,
    ⟨(some 47), none, .call (.val (.fn 7 [])) [(.tmp 46)]⟩,
    ⟨(some 48), none, .bin .neq .other (.tmp 47) (.val (.int .i64 0))⟩])
  (.cond (.tmp 48)
   (.seq (.ops [
      ⟨(some 49), none, .call (.val (.fn 5 [])) []⟩,
      ⟨(some 4), none, .mov (.tmp 49)⟩])
    (.ret))
   (.skip)))
  (.seq (.seq (.ops [
    ⟨(some 50), none, .mov (.tmp 9)⟩,
    ⟨(some 51), none, .call (.val (.fn 7 [])) [(.tmp 50)]⟩,
    ⟨(some 52), none, .bin .neq .other (.tmp 51) (.val (.int .i64 0))⟩])
  (.cond (.tmp 52)
   (.seq (.ops [
      ⟨(some 53), none, .mov (.tmp 12)⟩,
      ⟨(some 54), none, .call (.val (.fn 7 [])) [(.tmp 53)]⟩,
      ⟨(some 55), none, .mov (.tmp 9)⟩,
      ⟨(some 56), none, .call (.val (.fn 7 [])) [(.tmp 55)]⟩,
      ⟨(some 57), none, .bin .eql .other (.tmp 54) (.tmp 56)⟩,
      ⟨(some 58), none, .mov (.tmp 57)⟩,
      ⟨(some 59), some (58, true), .mov (.tmp 13)⟩,
      ⟨(some 60), some (58, true), .mov (.tmp 10)⟩,
      ⟨(some 61), some (58, true), .mov (.tmp 0)⟩,
      ⟨(some 62), some (58, true), .len false (.tmp 61)⟩,
      ⟨(some 63), some (58, true), .bin .add .other (.tmp 60) (.tmp 62)⟩,
      ⟨(some 64), some (58, true), .bin .eql .other (.tmp 59) (.tmp 63)⟩,
      ⟨(some 65), none, .pick (.tmp 58) (.tmp 64) (.val (.bool false))⟩,
      ⟨(some 66), none, .mov (.tmp 65)⟩,
      ⟨(some 67), some (66, true), .call (.val (.fn 5 [])) []⟩,
      ⟨(some 68), none, .pick (.tmp 66) (.tmp 67) (.val (.bool false))⟩,
      ⟨(some 4), none, .mov (.tmp 68)⟩])
    (.ret))
   (.skip)))
  (.seq (.drawR 17 (.op 0 [] ⟨(some 69), none, .bslice 40 6 [] 0 []⟩
  (.op 1 [] ⟨(some 70), none, .faddr 0 (.tmp 5)⟩
  (.op 2 [1] ⟨(some 71), none, .load none (.tmp 70)⟩
  (.op 3 [0, 1, 2] ⟨(some 72), none, .append 40 6 48 (.tmp 69) (.tmp 71)⟩
  (.op 4 [] ⟨(some 73), none, .faddr 0 (.tmp 8)⟩
  (.op 5 [4] ⟨(some 74), none, .load none (.tmp 73)⟩
  (.op 6 [0, 1, 2, 3, 4, 5] ⟨(some 75), none, .append 40 6 48 (.tmp 72) (.tmp 74)⟩
  (.op 7 [] ⟨(some 76), none, .bslice 3 1 [] 0 []⟩
  (.op 8 [] ⟨(some 77), none, .faddr 1 (.tmp 5)⟩
  (.op 9 [8] ⟨(some 78), none, .load none (.tmp 77)⟩
  (.op 10 [0, 1, 2, 3, 4, 5, 6, 7, 8, 9] ⟨(some 79), none, .append 3 1 8 (.tmp 76) (.tmp 78)⟩
  (.op 11 [] ⟨(some 80), none, .faddr 1 (.tmp 8)⟩
  (.op 12 [11] ⟨(some 81), none, .load none (.tmp 80)⟩
  (.op 13 [0, 1, 2, 3, 4, 5, 6, 7, 8, 9, 10, 11, 12] ⟨(some 82), none, .append 3 1 8 (.tmp 79) (.tmp 81)⟩
  (.op 14 [0, 1, 2, 3, 4, 5, 6, 7, 8, 9, 10, 11, 12, 13] ⟨(some 83), none, .build [.nils, .nils] [(0, 1, (.tmp 75)), (1, 1, (.tmp 82))]⟩
  (.op 15 [] ⟨(some 14), none, .alloc 27 [.nils, .nils]⟩
  (.op 16 [0, 1, 2, 3, 4, 5, 6, 7, 8, 9, 10, 11, 12, 13, 14, 15] ⟨none, none, .store 2 (.tmp 14) (.tmp 83)⟩
  (.done)))))))))))))))))))
  (.seq (.drawR 31 (.op 0 [] ⟨(some 84), none, .mov (.tmp 12)⟩
  (.op 1 [0] ⟨(some 85), none, .call (.val (.fn 7 [])) [(.tmp 84)]⟩
  (.op 2 [0, 1] ⟨(some 86), none, .bin .eql .other (.tmp 85) (.val (.int .i64 0))⟩
  (.op 3 [0, 1, 2] ⟨(some 87), none, .mov (.tmp 86)⟩
  (.op 4 [0, 1, 2, 3] ⟨(some 88), some (87, true), .mov (.tmp 13)⟩
  (.op 5 [0, 1, 2, 3] ⟨(some 89), some (87, true), .mov (.tmp 0)⟩
  (.op 6 [0, 1, 2, 3, 5] ⟨(some 90), some (87, true), .len false (.tmp 89)⟩
  (.op 7 [0, 1, 2, 3] ⟨(some 91), some (87, true), .mov (.tmp 1)⟩
  (.op 8 [0, 1, 2, 3, 7] ⟨(some 92), some (87, true), .len false (.tmp 91)⟩
  (.op 9 [0, 1, 2, 3, 5, 6, 7, 8] ⟨(some 93), some (87, true), .bin .add .other (.tmp 90) (.tmp 92)⟩
  (.op 10 [0, 1, 2, 3, 4, 5, 6, 7, 8, 9] ⟨(some 94), some (87, true), .bin .eql .other (.tmp 88) (.tmp 93)⟩
  (.op 11 [0, 1, 2, 3, 4, 5, 6, 7, 8, 9, 10] ⟨(some 95), none, .pick (.tmp 87) (.tmp 94) (.val (.bool false))⟩
  (.op 12 [0, 1, 2, 3, 4, 5, 6, 7, 8, 9, 10, 11] ⟨(some 96), none, .mov (.tmp 95)⟩
  (.op 13 [0, 1, 2, 3, 4, 5, 6, 7, 8, 9, 10, 11, 12] ⟨(some 97), some (96, true), .load (some 2) (.tmp 11)⟩
  (.op 14 [0, 1, 2, 3, 4, 5, 6, 7, 8, 9, 10, 11, 12] ⟨(some 98), some (96, true), .load (some 2) (.tmp 14)⟩
  (.op 15 [0, 1, 2, 3, 4, 5, 6, 7, 8, 9, 10, 11, 12, 13, 14] ⟨(some 99), some (96, true), .call (.val (.fn 8 [])) [(.tmp 97), (.tmp 98), (.val (.bool false))]⟩
  (.op 16 [0, 1, 2, 3, 4, 5, 6, 7, 8, 9, 10, 11, 12, 13, 14, 15] ⟨(some 100), none, .pick (.tmp 96) (.tmp 99) (.val (.bool false))⟩
  (.op 17 [0, 1, 2, 3, 4, 5, 6, 7, 8, 9, 10, 11, 12, 13, 14, 15, 16] ⟨(some 101), none, .mov (.tmp 100)⟩
  (.op 18 [0, 1, 2, 3, 4, 5, 6, 7, 8, 9, 10, 11, 12, 13, 14, 15, 16, 17] ⟨(some 102), some (101, true), .load (some 2) (.tmp 11)⟩
  (.op 20 [0, 1, 2, 3, 4, 5, 6, 7, 8, 9, 10, 11, 12, 13, 14, 15, 16, 17] ⟨(some 104), some (101, true), .load (some 2) (.tmp 5)⟩
  (.op 22 [0, 1, 2, 3, 4, 5, 6, 7, 8, 9, 10, 11, 12, 13, 14, 15, 16, 17] ⟨(some 106), some (101, true), .load (some 2) (.tmp 8)⟩
  (.op 19 [0, 1, 2, 3, 4, 5, 6, 7, 8, 9, 10, 11, 12, 13, 14, 15, 16, 17, 18] ⟨(some 103), some (101, true), .call (.val (.fn 9 [])) [(.tmp 102)]⟩
  (.op 21 [0, 1, 2, 3, 4, 5, 6, 7, 8, 9, 10, 11, 12, 13, 14, 15, 16, 17, 18, 19, 20] ⟨(some 105), some (101, true), .call (.val (.fn 9 [])) [(.tmp 104)]⟩
  (.op 23 [0, 1, 2, 3, 4, 5, 6, 7, 8, 9, 10, 11, 12, 13, 14, 15, 16, 17, 18, 19, 20, 21, 22] ⟨(some 107), some (101, true), .call (.val (.fn 9 [])) [(.tmp 106)]⟩
  (.op 24 [0, 1, 2, 3, 4, 5, 6, 7, 8, 9, 10, 11, 12, 13, 14, 15, 16, 17, 18, 19, 20, 21, 22, 23] ⟨(some 108), some (101, true), .bin .add .other (.tmp 105) (.tmp 107)⟩
  (.op 25 [0, 1, 2, 3, 4, 5, 6, 7, 8, 9, 10, 11, 12, 13, 14, 15, 16, 17, 18, 19, 20, 21, 22, 23, 24] ⟨(some 109), some (101, true), .bin .eql .other (.tmp 103) (.tmp 108)⟩
  (.op 26 [0, 1, 2, 3, 4, 5, 6, 7, 8, 9, 10, 11, 12, 13, 14, 15, 16, 17, 18, 19, 20, 21, 22, 23, 24, 25] ⟨(some 110), none, .pick (.tmp 101) (.tmp 109) (.val (.bool false))⟩
  (.op 27 [0, 1, 2, 3, 4, 5, 6, 7, 8, 9, 10, 11, 12, 13, 14, 15, 16, 17, 18, 19, 20, 21, 22, 23, 24, 25, 26] ⟨(some 111), none, .mov (.tmp 110)⟩
  (.op 28 [0, 1, 2, 3, 4, 5, 6, 7, 8, 9, 10, 11, 12, 13, 14, 15, 16, 17, 18, 19, 20, 21, 22, 23, 24, 25, 26, 27] ⟨(some 112), some (111, true), .call (.val (.fn 5 [])) []⟩
  (.op 29 [0, 1, 2, 3, 4, 5, 6, 7, 8, 9, 10, 11, 12, 13, 14, 15, 16, 17, 18, 19, 20, 21, 22, 23, 24, 25, 26, 27, 28] ⟨(some 113), none, .pick (.tmp 111) (.tmp 112) (.val (.bool false))⟩
  (.op 30 [0, 1, 2, 3, 4, 5, 6, 7, 8, 9, 10, 11, 12, 13, 14, 15, 16, 17, 18, 19, 20, 21, 22, 23, 24, 25, 26, 27, 28, 29] ⟨(some 4), none, .mov (.tmp 113)⟩
  (.done)))))))))))))))))))))))))))))))))
  (.ret)))))))))
def e3 : FEnt := ⟨114, c3, [.tmp 4]⟩
theorem v3 : Valid Try.prog 3 e3 :=
  ⟨Try.f3, Try.f3.body.getD .skip, Try.func3, by kernel_rfl, by kernel_rfl, by kernel_rfl, by kernel_rfl, by kernel_rfl⟩

/-- jacquard/jacquardlaw21.ScriptErases -/
def c4 : FC :=
  .seq (.ops [
    ⟨(some 1), none, .box 27 (.tmp 0)⟩,
    ⟨(some 2), none, .mov (.val (.bool false))⟩])
  (.seq (.seq (.ops [
    ⟨(some 7), none, .load (some 2) (.tmp 1)⟩,
    ⟨(some 8), none, .call (.val (.fn 10 [])) [(.tmp 7)]⟩])
  (.cond (.tmp 8)
   (.seq (.ops [
      ⟨(some 9), none, .call (.val (.fn 5 [])) []⟩,
      ⟨(some 2), none, .mov (.tmp 9)⟩])
    (.ret))
   (.skip)))
  (.seq (.drawR 11 (.op 0 [] ⟨(some 10), none, .bslice 40 6 [] 0 []⟩
  (.op 1 [] ⟨(some 11), none, .faddr 0 (.tmp 1)⟩
  (.op 2 [1] ⟨(some 12), none, .load none (.tmp 11)⟩
  (.op 3 [0, 1, 2] ⟨(some 13), none, .append 40 6 48 (.tmp 10) (.tmp 12)⟩
  (.op 4 [] ⟨(some 14), none, .bslice 3 1 [] 0 []⟩
  (.op 5 [] ⟨(some 15), none, .faddr 1 (.tmp 1)⟩
  (.op 6 [5] ⟨(some 16), none, .load none (.tmp 15)⟩
  (.op 7 [0, 1, 2, 3, 4, 5, 6] ⟨(some 17), none, .append 3 1 8 (.tmp 14) (.tmp 16)⟩
  (.op 8 [0, 1, 2, 3, 4, 5, 6, 7] ⟨(some 18), none, .build [.nils, .nils] [(0, 1, (.tmp 13)), (1, 1, (.tmp 17))]⟩
  (.op 9 [] ⟨(some 3), none, .alloc 27 [.nils, .nils]⟩
  (.op 10 [0, 1, 2, 3, 4, 5, 6, 7, 8, 9] ⟨none, none, .store 2 (.tmp 3) (.tmp 18)⟩
  (.done)))))))))))))
  (.seq (.ops [
    ⟨(some 19), none, .load (some 2) (.tmp 3)⟩,
    ⟨(some 20), none, .call (.val (.fn 11 [])) [(.tmp 19)]⟩,
    ⟨(some 4), none, .alloc 27 [.nils, .nils]⟩,
    ⟨none, none, .store 2 (.tmp 4) (.tmp 20)⟩])
  (.seq (.seq (.drawR 18 (.op 0 [] ⟨(some 21), none, .load (some 2) (.tmp 4)⟩
  (.op 1 [] ⟨(some 22), none, .load (some 2) (.tmp 1)⟩
  (.op 2 [1] ⟨(some 23), none, .call (.val (.fn 12 [])) [(.tmp 22)]⟩
  (.op 3 [0, 1, 2] ⟨(some 24), none, .call (.val (.fn 8 [])) [(.tmp 21), (.tmp 23), (.val (.bool false))]⟩
  (.op 4 [0, 1, 2, 3] ⟨(some 25), none, .un .not (.tmp 24)⟩
  (.op 5 [0, 1, 2, 3, 4] ⟨(some 26), none, .mov (.tmp 25)⟩
  (.op 6 [0, 1, 2, 3, 4, 5] ⟨(some 27), some (26, false), .load (some 2) (.tmp 3)⟩
  (.op 7 [0, 1, 2, 3, 4, 5] ⟨(some 28), some (26, false), .load (some 2) (.tmp 1)⟩
  (.op 8 [0, 1, 2, 3, 4, 5, 6, 7] ⟨(some 29), some (26, false), .call (.val (.fn 8 [])) [(.tmp 27), (.tmp 28), (.val (.bool false))]⟩
  (.op 9 [0, 1, 2, 3, 4, 5, 6, 7, 8] ⟨(some 30), some (26, false), .un .not (.tmp 29)⟩
  (.op 10 [0, 1, 2, 3, 4, 5, 6, 7, 8, 9] ⟨(some 31), none, .pick (.tmp 26) (.val (.bool true)) (.tmp 30)⟩
  (.op 11 [0, 1, 2, 3, 4, 5, 6, 7, 8, 9, 10] ⟨(some 32), none, .mov (.tmp 31)⟩
  (.op 12 [0, 1, 2, 3, 4, 5, 6, 7, 8, 9, 10, 11] ⟨(some 33), some (32, false), .load (some 2) (.tmp 4)⟩
  (.op 14 [0, 1, 2, 3, 4, 5, 6, 7, 8, 9, 10, 11] ⟨(some 35), some (32, false), .load (some 2) (.tmp 1)⟩
  (.op 13 [0, 1, 2, 3, 4, 5, 6, 7, 8, 9, 10, 11, 12] ⟨(some 34), some (32, false), .call (.val (.fn 9 [])) [(.tmp 33)]⟩
  (.op 15 [0, 1, 2, 3, 4, 5, 6, 7, 8, 9, 10, 11, 12, 13, 14] ⟨(some 36), some (32, false), .call (.val (.fn 9 [])) [(.tmp 35)]⟩
  (.op 16 [0, 1, 2, 3, 4, 5, 6, 7, 8, 9, 10, 11, 12, 13, 14, 15] ⟨(some 37), some (32, false), .bin .neq .other (.tmp 34) (.tmp 36)⟩
  (.op 17 [0, 1, 2, 3, 4, 5, 6, 7, 8, 9, 10, 11, 12, 13, 14, 15, 16] ⟨(some 38), none, .pick (.tmp 32) (.val (.bool true)) (.tmp 37)⟩
  (.done))))))))))))))))))))
  (.cond (.tmp 38)
   (.seq (.ops [
      ⟨(some 2), none, .mov (.val (.bool false))⟩])
    (.ret))
   (.skip)))
  (.seq (.seq (.ops [
    ⟨(some 5), none, .mov (.val (.int .i64 0))⟩])
  (.block 0 (.loop (.seq (.seq (.ops [
        ⟨(some 39), none, .mov (.tmp 5)⟩,
        ⟨(some 40), none, .faddr 0 (.tmp 4)⟩,
        ⟨(some 41), none, .load none (.tmp 40)⟩,
        ⟨(some 42), none, .len false (.tmp 41)⟩,
        ⟨(some 43), none, .bin .lss .other (.tmp 39) (.tmp 42)⟩])
      (.cond (.tmp 43)
       (.skip)
       (.exit 0)))
      (.seq (.block 1 (.seq (.seq (.ops [
          ⟨(some 46), none, .faddr 0 (.tmp 4)⟩,
          ⟨(some 47), none, .load none (.tmp 46)⟩,
          ⟨(some 48), none, .mov (.tmp 5)⟩,
          ⟨(some 49), none, .iaddr 6 (.tmp 47) (.tmp 48)⟩,
          ⟨(some 50), none, .faddr 0 (.tmp 49)⟩,
          ⟨(some 51), none, .load none (.tmp 50)⟩,
          ⟨(some 52), none, .bin .eql .other (.tmp 51) (.val (.int .i64 3))⟩])
        (.cond (.tmp 52)
         (.seq (.ops [
            ⟨(some 2), none, .mov (.val (.bool false))⟩])
          (.ret))
         (.skip)))
        (.ops [
          ⟨(some 53), none, .faddr 0 (.tmp 4)⟩,
          ⟨(some 54), none, .load none (.tmp 53)⟩,
          ⟨(some 55), none, .mov (.tmp 5)⟩,
          ⟨(some 56), none, .iaddr 6 (.tmp 54) (.tmp 55)⟩,
          ⟨(some 57), none, .faddr 1 (.tmp 56)⟩,
          ⟨none, none, .store 1 (.tmp 57) (.val (.int .i64 (-1)))⟩])))
      (.ops [
        ⟨(some 44), none, .mov (.tmp 5)⟩,
        ⟨(some 45), none, .bin .add .other (.tmp 44) (.val (.int .i64 1))⟩,
        ⟨(some 5), none, .mov (.tmp 45)⟩]))))))
  (.seq (.seq (.ops [
    ⟨(some 6), none, .mov (.val (.int .i64 0))⟩])
  (.block 2 (.loop (.seq (.seq (.ops [
        ⟨(some 58), none, .mov (.tmp 6)⟩,
        ⟨(some 59), none, .faddr 1 (.tmp 4)⟩,
        ⟨(some 60), none, .load none (.tmp 59)⟩,
        ⟨(some 61), none, .len false (.tmp 60)⟩,
        ⟨(some 62), none, .bin .lss .other (.tmp 58) (.tmp 61)⟩])
      (.cond (.tmp 62)
       (.skip)
       (.exit 2)))
      (.seq (.block 3 (.ops [
          ⟨(some 65), none, .faddr 1 (.tmp 4)⟩,
          ⟨(some 66), none, .load none (.tmp 65)⟩,
          ⟨(some 67), none, .mov (.tmp 6)⟩,
          ⟨(some 68), none, .iaddr 1 (.tmp 66) (.tmp 67)⟩,
          ⟨(some 69), none, .load none (.tmp 68)⟩,
          ⟨(some 70), none, .bin .add .other (.tmp 69) (.val (.int .i64 1))⟩,
          ⟨(some 71), none, .iaddr 1 (.tmp 66) (.tmp 67)⟩,
          ⟨none, none, .store 1 (.tmp 71) (.tmp 70)⟩]))
      (.ops [
        ⟨(some 63), none, .mov (.tmp 6)⟩,
        ⟨(some 64), none, .bin .add .other (.tmp 63) (.val (.int .i64 1))⟩,
        ⟨(some 6), none, .mov (.tmp 64)⟩]))))))
  (.seq (.drawR 14 (.op 0 [] ⟨(some 72), none, .load (some 2) (.tmp 3)⟩
  (.op 1 [] ⟨(some 73), none, .load (some 2) (.tmp 1)⟩
  (.op 2 [0, 1] ⟨(some 74), none, .call (.val (.fn 8 [])) [(.tmp 72), (.tmp 73), (.val (.bool false))]⟩
  (.op 3 [0, 1, 2] ⟨(some 75), none, .mov (.tmp 74)⟩
  (.op 4 [0, 1, 2, 3] ⟨(some 76), some (75, true), .load (some 2) (.tmp 3)⟩
  (.op 6 [0, 1, 2, 3] ⟨(some 78), some (75, true), .load (some 2) (.tmp 1)⟩
  (.op 5 [0, 1, 2, 3, 4] ⟨(some 77), some (75, true), .call (.val (.fn 11 [])) [(.tmp 76)]⟩
  (.op 7 [0, 1, 2, 3, 4, 5, 6] ⟨(some 79), some (75, true), .call (.val (.fn 12 [])) [(.tmp 78)]⟩
  (.op 8 [0, 1, 2, 3, 4, 5, 6, 7] ⟨(some 80), some (75, true), .call (.val (.fn 8 [])) [(.tmp 77), (.tmp 79), (.val (.bool false))]⟩
  (.op 9 [0, 1, 2, 3, 4, 5, 6, 7, 8] ⟨(some 81), none, .pick (.tmp 75) (.tmp 80) (.val (.bool false))⟩
  (.op 10 [0, 1, 2, 3, 4, 5, 6, 7, 8, 9] ⟨(some 82), none, .mov (.tmp 81)⟩
  (.op 11 [0, 1, 2, 3, 4, 5, 6, 7, 8, 9, 10] ⟨(some 83), some (82, true), .call (.val (.fn 5 [])) []⟩
  (.op 12 [0, 1, 2, 3, 4, 5, 6, 7, 8, 9, 10, 11] ⟨(some 84), none, .pick (.tmp 82) (.tmp 83) (.val (.bool false))⟩
  (.op 13 [0, 1, 2, 3, 4, 5, 6, 7, 8, 9, 10, 11, 12] ⟨(some 2), none, .mov (.tmp 84)⟩
  (.done))))))))))))))))
  (.ret))))))))
def e4 : FEnt := ⟨85, c4, [.tmp 2]⟩
theorem v4 : Valid Try.prog 4 e4 :=
  ⟨Try.f4, Try.f4.body.getD .skip, Try.func4, by kernel_rfl, by kernel_rfl, by kernel_rfl, by kernel_rfl, by kernel_rfl⟩

/-- jacquard/jacquardlaw21.live -/
def c5 : FC :=
  .seq (.ops [
    ⟨(some 0), none, .mov (.val (.bool false))⟩])
  (.seq (.ops [
    ⟨(some 8), none, .bslice 5 1 [(.int .u8 0), (.int .u8 0), (.int .u8 0), (.int .u8 0), (.int .u8 0), (.int .u8 0), (.int .u8 0), (.int .u8 0), (.int .u8 0), (.int .u8 0), (.int .u8 0), (.int .u8 0), (.int .u8 0), (.int .u8 0), (.int .u8 0), (.int .u8 0), (.int .u8 0), (.int .u8 0), (.int .u8 0), (.int .u8 0), (.int .u8 0), (.int .u8 0), (.int .u8 0), (.int .u8 0), (.int .u8 0), (.int .u8 0), (.int .u8 0), (.int .u8 0), (.int .u8 0), (.int .u8 0)] 30 [(0, 1, (.val (.int .u8 112))), (1, 1, (.val (.int .u8 105))), (2, 1, (.val (.int .u8 99))), (3, 1, (.val (.int .u8 107))), (4, 1, (.val (.int .u8 32))), (5, 1, (.val (.int .u8 48))), (6, 1, (.val (.int .u8 32))), (7, 1, (.val (.int .u8 50))), (8, 1, (.val (.int .u8 10))), (9, 1, (.val (.int .u8 100))), (10, 1, (.val (.int .u8 114))), (11, 1, (.val (.int .u8 97))), (12, 1, (.val (.int .u8 119))), (13, 1, (.val (.int .u8 32))), (14, 1, (.val (.int .u8 45))), (15, 1, (.val (.int .u8 53))), (16, 1, (.val (.int .u8 10))), (17, 1, (.val (.int .u8 116))), (18, 1, (.val (.int .u8 105))), (19, 1, (.val (.int .u8 101))), (20, 1, (.val (.int .u8 114))), (21, 1, (.val (.int .u8 32))), (22, 1, (.val (.int .u8 49))), (23, 1, (.val (.int .u8 32))), (24, 1, (.val (.int .u8 49))), (25, 1, (.val (.int .u8 32))), (26, 1, (.val (.int .u8 48))), (27, 1, (.val (.int .u8 32))), (28, 1, (.val (.int .u8 50))), (29, 1, (.val (.int .u8 10)))]⟩,
    ⟨(some 9), none, .s2b 5 true (.tmp 8)⟩,
    ⟨(some 10), none, .call (.val (.fn 6 [])) [(.tmp 9)]⟩,
    ⟨(some 7), none, .mov (.tmp 10)⟩,
    ⟨(some 11), none, .extract (.tmp 7) 0⟩,
    ⟨(some 12), none, .extract (.tmp 7) 1⟩,
    ⟨(some 13), none, .extract (.tmp 7) 2⟩,
    ⟨(some 1), none, .alloc 27 [.nils, .nils]⟩,
    ⟨none, none, .store 2 (.tmp 1) (.tmp 11)⟩,
    ⟨(some 2), none, .mov (.tmp 12)⟩,
    ⟨(some 3), none, .mov (.tmp 13)⟩])
  (.seq (.ops [
    ⟨(some 15), none, .bslice 5 1 [(.int .u8 0), (.int .u8 0), (.int .u8 0), (.int .u8 0), (.int .u8 0), (.int .u8 0), (.int .u8 0), (.int .u8 0), (.int .u8 0), (.int .u8 0)] 10 [(0, 1, (.val (.int .u8 112))), (1, 1, (.val (.int .u8 105))), (2, 1, (.val (.int .u8 99))), (3, 1, (.val (.int .u8 107))), (4, 1, (.val (.int .u8 32))), (5, 1, (.val (.int .u8 49))), (6, 1, (.val (.int .u8 32))), (7, 1, (.val (.int .u8 54))), (8, 1, (.val (.int .u8 53))), (9, 1, (.val (.int .u8 10)))]⟩,
    ⟨(some 16), none, .s2b 5 true (.tmp 15)⟩,
    ⟨(some 17), none, .call (.val (.fn 6 [])) [(.tmp 16)]⟩,
    ⟨(some 14), none, .mov (.tmp 17)⟩,
    ⟨(some 18), none, .extract (.tmp 14) 0⟩,
    ⟨(some 19), none, .extract (.tmp 14) 1⟩,
    ⟨(some 20), none, .extract (.tmp 14) 2⟩,
    ⟨(some 4), none, .alloc 27 [.nils, .nils]⟩,
    ⟨none, none, .store 2 (.tmp 4) (.tmp 18)⟩,
    ⟨(some 5), none, .mov (.tmp 19)⟩,
    ⟨(some 6), none, .mov (.tmp 20)⟩])
  (.seq (.ops [
    ⟨(some 21), none, .mov (.tmp 2)⟩,
    ⟨(some 22), none, .call (.val (.fn 7 [])) [(.tmp 21)]⟩,
    ⟨(some 23), none, .bin .eql .other (.tmp 22) (.val (.int .i64 0))⟩,
    ⟨(some 24), none, .mov (.tmp 23)⟩,
    ⟨(some 25), some (24, true), .mov (.tmp 3)⟩,
    ⟨(some 26), some (24, true), .bin .eql .other (.tmp 25) (.val (.int .i64 30))⟩,
    ⟨(some 27), none, .pick (.tmp 24) (.tmp 26) (.val (.bool false))⟩,
    ⟨(some 28), none, .mov (.tmp 27)⟩,
    ⟨(some 29), some (28, true), .faddr 0 (.tmp 1)⟩,
    ⟨(some 30), some (28, true), .load none (.tmp 29)⟩,
    ⟨(some 31), some (28, true), .len false (.tmp 30)⟩,
    ⟨(some 32), some (28, true), .bin .eql .other (.tmp 31) (.val (.int .i64 2))⟩,
    ⟨(some 33), none, .pick (.tmp 28) (.tmp 32) (.val (.bool false))⟩,
    ⟨(some 34), none, .mov (.tmp 33)⟩,
    ⟨(some 35), some (34, true), .faddr 0 (.tmp 1)⟩,
    ⟨(some 36), some (34, true), .load none (.tmp 35)⟩,
    ⟨(some 37), some (34, true), .iaddr 6 (.tmp 36) (.val (.int .i64 1))⟩,
    ⟨(some 38), some (34, true), .faddr 3 (.tmp 37)⟩,
    ⟨(some 39), some (34, true), .faddr 2 (.tmp 38)⟩,
    ⟨(some 40), some (34, true), .load none (.tmp 39)⟩,
    ⟨(some 41), some (34, true), .bin .eql .other (.tmp 40) (.val (.int .i64 2))⟩,
    ⟨(some 42), none, .pick (.tmp 34) (.tmp 41) (.val (.bool false))⟩,
    ⟨(some 43), none, .mov (.tmp 42)⟩,
    ⟨(some 44), some (43, true), .faddr 1 (.tmp 1)⟩,
    ⟨(some 45), some (43, true), .load none (.tmp 44)⟩,
    ⟨(some 46), some (43, true), .len false (.tmp 45)⟩,
    ⟨(some 47), some (43, true), .bin .eql .other (.tmp 46) (.val (.int .i64 1))⟩,
    ⟨(some 48), none, .pick (.tmp 43) (.tmp 47) (.val (.bool false))⟩,
    ⟨(some 49), none, .mov (.tmp 48)⟩,
    ⟨(some 50), some (49, true), .faddr 1 (.tmp 1)⟩,
    ⟨(some 51), some (49, true), .load none (.tmp 50)⟩,
    ⟨(some 52), some (49, true), .iaddr 1 (.tmp 51) (.val (.int .i64 0))⟩,
    ⟨(some 53), some (49, true), .load none (.tmp 52)⟩,
    ⟨(some 54), some (49, true), .bin .eql .other (.tmp 53) (.val (.int .i64 (-5)))⟩,
    ⟨(some 55), none, .pick (.tmp 49) (.tmp 54) (.val (.bool false))⟩,
    ⟨(some 56), none, .mov (.tmp 55)⟩,
    ⟨(some 57), some (56, true), .mov (.tmp 5)⟩,
    ⟨(some 58), some (56, true), .call (.val (.fn 7 [])) [(.tmp 57)]⟩,
    ⟨(some 59), some (56, true), .bin .eql .other (.tmp 58) (.val (.int .i64 9))⟩,
    ⟨(some 60), none, .pick (.tmp 56) (.tmp 59) (.val (.bool false))⟩,
    ⟨(some 61), none, .mov (.tmp 60)⟩,
    ⟨(some 62), some (61, true), .mov (.tmp 6)⟩,
    ⟨(some 63), some (61, true), .bin .eql .other (.tmp 62) (.val (.int .i64 7))⟩,
    ⟨(some 64), none, .pick (.tmp 61) (.tmp 63) (.val (.bool false))⟩,
    ⟨(some 65), none, .mov (.tmp 64)⟩,
    ⟨(some 66), some (65, true), .load (some 2) (.tmp 1)⟩,
    ⟨(some 67), some (65, true), .call (.val (.fn 9 [])) [(.tmp 66)]⟩,
    ⟨(some 68), some (65, true), .bin .eql .other (.tmp 67) (.val (.int .i64 1))⟩,
    ⟨(some 69), none, .pick (.tmp 65) (.tmp 68) (.val (.bool false))⟩,
    ⟨(some 0), none, .mov (.tmp 69)⟩])
  (.ret))))
def e5 : FEnt := ⟨70, c5, [.tmp 0]⟩
theorem v5 : Valid Try.prog 5 e5 :=
  ⟨Try.f5, Try.f5.body.getD .skip, Try.func5, by kernel_rfl, by kernel_rfl, by kernel_rfl, by kernel_rfl, by kernel_rfl⟩

/-- jacquard/script.Parse -/
def c6 : FC :=
  .seq (.ops [
    ⟨(some 2), none, .alloc 27 [.nils, .nils]⟩,
    ⟨(some 3), none, .mov (.val (.int .i64 0))⟩,
    ⟨(some 4), none, .mov (.val (.int .i64 0))⟩])
  (.seq (.seq (.ops [
    ⟨(some 6), none, .mov (.tmp 0)⟩,
    ⟨(some 7), none, .len false (.tmp 6)⟩,
    ⟨(some 8), none, .bin .gtr .other (.tmp 7) (.val (.int .i64 1048576))⟩])
  (.cond (.tmp 8)
   (.seq (.ops [
      ⟨(some 9), none, .build [.nils, .nils] []⟩,
      ⟨none, none, .store 2 (.tmp 2) (.tmp 9)⟩,
      ⟨(some 3), none, .mov (.val (.int .i64 2))⟩,
      ⟨(some 4), none, .mov (.val (.int .i64 0))⟩])
    (.ret))
   (.skip)))
  (.seq (.ops [
    ⟨(some 10), none, .mov (.tmp 0)⟩,
    ⟨(some 11), none, .build [.nils, (.int .i64 0), (.int .i64 0)] [(0, 1, (.tmp 10))]⟩,
    ⟨(some 12), none, .box 43 (.tmp 11)⟩,
    ⟨(some 5), none, .mov (.tmp 12)⟩])
  (.seq (.block 0 (.loop (.seq (.seq (.ops [
        ⟨(some 13), none, .mov (.tmp 5)⟩,
        ⟨(some 14), none, .nilchk (.tmp 13)⟩,
        ⟨(some 15), none, .faddr 2 (.tmp 14)⟩,
        ⟨(some 16), none, .load none (.tmp 15)⟩,
        ⟨(some 17), none, .bin .eql .other (.tmp 16) (.val (.int .i64 0))⟩,
        ⟨(some 18), none, .mov (.tmp 17)⟩,
        ⟨(some 19), some (18, true), .mov (.tmp 5)⟩,
        ⟨(some 20), some (18, true), .nilchk (.tmp 19)⟩,
        ⟨(some 21), some (18, true), .faddr 1 (.tmp 20)⟩,
        ⟨(some 22), some (18, true), .load none (.tmp 21)⟩,
        ⟨(some 23), some (18, true), .mov (.tmp 0)⟩,
        ⟨(some 24), some (18, true), .len false (.tmp 23)⟩,
        ⟨(some 25), some (18, true), .bin .lss .other (.tmp 22) (.tmp 24)⟩,
        ⟨(some 26), none, .pick (.tmp 18) (.tmp 25) (.val (.bool false))⟩])
      (.cond (.tmp 26)
       (.skip)
       (.exit 0)))
      (.block 1 (.ops [
          ⟨(some 27), none, .mov (.tmp 5)⟩,
          ⟨(some 28), none, .call (.val (.fn 13 [])) [(.tmp 27), (.tmp 2)]⟩])))))
  (.seq (.seq (.ops [
    ⟨(some 29), none, .mov (.tmp 5)⟩,
    ⟨(some 30), none, .nilchk (.tmp 29)⟩,
    ⟨(some 31), none, .faddr 2 (.tmp 30)⟩,
    ⟨(some 32), none, .load none (.tmp 31)⟩,
    ⟨(some 33), none, .bin .neq .other (.tmp 32) (.val (.int .i64 0))⟩])
  (.cond (.tmp 33)
   (.seq (.draw (.ops [
      ⟨(some 34), none, .build [.nils, .nils] []⟩,
      ⟨(some 35), none, .mov (.tmp 5)⟩,
      ⟨(some 36), none, .nilchk (.tmp 35)⟩,
      ⟨(some 37), none, .faddr 2 (.tmp 36)⟩,
      ⟨(some 38), none, .load none (.tmp 37)⟩,
      ⟨(some 39), none, .mov (.tmp 5)⟩,
      ⟨(some 40), none, .nilchk (.tmp 39)⟩,
      ⟨(some 41), none, .faddr 1 (.tmp 40)⟩,
      ⟨(some 42), none, .load none (.tmp 41)⟩,
      ⟨none, none, .store 2 (.tmp 2) (.tmp 34)⟩,
      ⟨(some 3), none, .mov (.tmp 38)⟩,
      ⟨(some 4), none, .mov (.tmp 42)⟩] (.done)))
    (.ret))
   (.skip)))
  (.seq (.ops [
    ⟨(some 43), none, .load (some 2) (.tmp 2)⟩,
    ⟨(some 44), none, .mov (.tmp 0)⟩,
    ⟨(some 45), none, .len false (.tmp 44)⟩,
    ⟨none, none, .store 2 (.tmp 2) (.tmp 43)⟩,
    ⟨(some 3), none, .mov (.val (.int .i64 0))⟩,
    ⟨(some 4), none, .mov (.tmp 45)⟩])
  (.ret))))))
def e6 : FEnt := ⟨46, c6, [.cell 2 (some 2), .tmp 3, .tmp 4]⟩
theorem v6 : Valid Try.prog 6 e6 :=
  ⟨Try.f6, Try.f6.body.getD .skip, Try.func6, by kernel_rfl, by kernel_rfl, by kernel_rfl, by kernel_rfl, by kernel_rfl⟩

/-- jacquard/jacquardlaw21.num -/
def c7 : FC :=
  .seq (.ops [
    ⟨(some 2), none, .mov (.val (.int .i64 0))⟩])
  (.seq (.ops [
    ⟨(some 3), none, .mov (.tmp 0)⟩,
    ⟨(some 2), none, .mov (.tmp 3)⟩])
  (.ret))
def e7 : FEnt := ⟨4, c7, [.tmp 2]⟩
theorem v7 : Valid Try.prog 7 e7 :=
  ⟨Try.f7, Try.f7.body.getD .skip, Try.func7, by kernel_rfl, by kernel_rfl, by kernel_rfl, by kernel_rfl, by kernel_rfl⟩

/-- jacquard/jacquardref21.Same -/
def c8 : FC :=
  .seq (.ops [
    ⟨(some 3), none, .box 27 (.tmp 0)⟩,
    ⟨(some 4), none, .box 27 (.tmp 1)⟩,
    ⟨(some 6), none, .mov (.val (.bool false))⟩])
  (.seq (.seq (.ops [
    ⟨(some 11), none, .faddr 0 (.tmp 3)⟩,
    ⟨(some 12), none, .load none (.tmp 11)⟩,
    ⟨(some 13), none, .len false (.tmp 12)⟩,
    ⟨(some 14), none, .faddr 0 (.tmp 4)⟩,
    ⟨(some 15), none, .load none (.tmp 14)⟩,
    ⟨(some 16), none, .len false (.tmp 15)⟩,
    ⟨(some 17), none, .bin .neq .other (.tmp 13) (.tmp 16)⟩,
    ⟨(some 18), none, .mov (.tmp 17)⟩,
    ⟨(some 19), some (18, false), .faddr 1 (.tmp 3)⟩,
    ⟨(some 20), some (18, false), .load none (.tmp 19)⟩,
    ⟨(some 21), some (18, false), .len false (.tmp 20)⟩,
    ⟨(some 22), some (18, false), .faddr 1 (.tmp 4)⟩,
    ⟨(some 23), some (18, false), .load none (.tmp 22)⟩,
    ⟨(some 24), some (18, false), .len false (.tmp 23)⟩,
    ⟨(some 25), some (18, false), .bin .neq .other (.tmp 21) (.tmp 24)⟩,
    ⟨(some 26), none, .pick (.tmp 18) (.val (.bool true)) (.tmp 25)⟩])
  (.cond (.tmp 26)
   (.seq (.ops [
      ⟨(some 6), none, .mov (.val (.bool false))⟩])
    (.ret))
   (.skip)))
  (.seq (.seq (.ops [
    ⟨(some 7), none, .mov (.val (.int .i64 0))⟩])
  (.block 0 (.loop (.seq (.seq (.ops [
        ⟨(some 27), none, .mov (.tmp 7)⟩,
        ⟨(some 28), none, .faddr 0 (.tmp 3)⟩,
        ⟨(some 29), none, .load none (.tmp 28)⟩,
        ⟨(some 30), none, .len false (.tmp 29)⟩,
        ⟨(some 31), none, .bin .lss .other (.tmp 27) (.tmp 30)⟩])
      (.cond (.tmp 31)
       (.skip)
       (.exit 0)))
      (.seq (.block 1 (.seq (.drawR 14 (.op 0 [] ⟨(some 34), none, .faddr 0 (.tmp 3)⟩
        (.op 1 [0] ⟨(some 35), none, .load none (.tmp 34)⟩
        (.op 2 [] ⟨(some 36), none, .mov (.tmp 7)⟩
        (.op 3 [0, 1, 2] ⟨(some 37), none, .iaddr 6 (.tmp 35) (.tmp 36)⟩
        (.op 4 [0, 1, 2, 3] ⟨(some 38), none, .load (some 6) (.tmp 37)⟩
        (.op 5 [] ⟨(some 39), none, .faddr 0 (.tmp 4)⟩
        (.op 6 [5] ⟨(some 40), none, .load none (.tmp 39)⟩
        (.op 7 [] ⟨(some 41), none, .mov (.tmp 7)⟩
        (.op 8 [5, 6, 7] ⟨(some 42), none, .iaddr 6 (.tmp 40) (.tmp 41)⟩
        (.op 9 [5, 6, 7, 8] ⟨(some 43), none, .load (some 6) (.tmp 42)⟩
        (.op 10 [] ⟨(some 8), none, .alloc 40 [(.int .i64 0), (.int .i64 0), (.int .i64 0), (.int .i64 0), (.int .i64 0), (.int .i64 0)]⟩
        (.op 11 [] ⟨(some 9), none, .alloc 40 [(.int .i64 0), (.int .i64 0), (.int .i64 0), (.int .i64 0), (.int .i64 0), (.int .i64 0)]⟩
        (.op 12 [0, 1, 2, 3, 4, 10, 11] ⟨none, none, .store 6 (.tmp 8) (.tmp 38)⟩
        (.op 13 [0, 1, 2, 3, 4, 5, 6, 7, 8, 9, 10, 11, 12] ⟨none, none, .store 6 (.tmp 9) (.tmp 43)⟩
        (.done))))))))))))))))
        (.seq (.seq (.ops [
          ⟨(some 44), none, .mov (.tmp 2)⟩])
        (.cond (.tmp 44)
         (.drawR 6 (.op 0 [] ⟨(some 45), none, .load (some 6) (.tmp 8)⟩
          (.op 2 [] ⟨(some 47), none, .load (some 6) (.tmp 9)⟩
          (.op 1 [0] ⟨(some 46), none, .call (.val (.fn 14 [])) [(.tmp 45)]⟩
          (.op 3 [0, 1, 2] ⟨(some 48), none, .call (.val (.fn 14 [])) [(.tmp 47)]⟩
          (.op 4 [0, 1, 2, 3] ⟨none, none, .store 6 (.tmp 8) (.tmp 46)⟩
          (.op 5 [0, 1, 2, 3, 4] ⟨none, none, .store 6 (.tmp 9) (.tmp 48)⟩
          (.done))))))))
         (.skip)))
        (.seq (.ops [
          ⟨(some 49), none, .load (some 6) (.tmp 8)⟩,
          ⟨(some 50), none, .load (some 6) (.tmp 9)⟩,
          ⟨(some 51), none, .bin .neq (.flat 6 [(0, 1), (1, 1), (2, 1), (3, 1), (4, 1), (5, 1)]) (.tmp 49) (.tmp 50)⟩])
        (.cond (.tmp 51)
         (.seq (.ops [
            ⟨(some 6), none, .mov (.val (.bool false))⟩])
          (.ret))
         (.skip))))))
      (.ops [
        ⟨(some 32), none, .mov (.tmp 7)⟩,
        ⟨(some 33), none, .bin .add .other (.tmp 32) (.val (.int .i64 1))⟩,
        ⟨(some 7), none, .mov (.tmp 33)⟩]))))))
  (.seq (.seq (.ops [
    ⟨(some 10), none, .mov (.val (.int .i64 0))⟩])
  (.block 2 (.loop (.seq (.seq (.ops [
        ⟨(some 52), none, .mov (.tmp 10)⟩,
        ⟨(some 53), none, .faddr 1 (.tmp 3)⟩,
        ⟨(some 54), none, .load none (.tmp 53)⟩,
        ⟨(some 55), none, .len false (.tmp 54)⟩,
        ⟨(some 56), none, .bin .lss .other (.tmp 52) (.tmp 55)⟩])
      (.cond (.tmp 56)
       (.skip)
       (.exit 2)))
      (.seq (.block 3 (.seq (.draw (.ops [
          ⟨(some 59), none, .faddr 1 (.tmp 3)⟩,
          ⟨(some 60), none, .load none (.tmp 59)⟩,
          ⟨(some 61), none, .mov (.tmp 10)⟩,
          ⟨(some 62), none, .iaddr 1 (.tmp 60) (.tmp 61)⟩,
          ⟨(some 63), none, .load none (.tmp 62)⟩,
          ⟨(some 64), none, .faddr 1 (.tmp 4)⟩,
          ⟨(some 65), none, .load none (.tmp 64)⟩,
          ⟨(some 66), none, .mov (.tmp 10)⟩,
          ⟨(some 67), none, .iaddr 1 (.tmp 65) (.tmp 66)⟩,
          ⟨(some 68), none, .load none (.tmp 67)⟩,
          ⟨(some 69), none, .bin .neq .other (.tmp 63) (.tmp 68)⟩] (.done)))
        (.cond (.tmp 69)
         (.seq (.ops [
            ⟨(some 6), none, .mov (.val (.bool false))⟩])
          (.ret))
         (.skip))))
      (.ops [
        ⟨(some 57), none, .mov (.tmp 10)⟩,
        ⟨(some 58), none, .bin .add .other (.tmp 57) (.val (.int .i64 1))⟩,
        ⟨(some 10), none, .mov (.tmp 58)⟩]))))))
  (.seq (.ops [
    ⟨(some 6), none, .mov (.val (.bool true))⟩])
  (.ret)))))
def e8 : FEnt := ⟨70, c8, [.tmp 6]⟩
theorem v8 : Valid Try.prog 8 e8 :=
  ⟨Try.f8, Try.f8.body.getD .skip, Try.func8, by kernel_rfl, by kernel_rfl, by kernel_rfl, by kernel_rfl, by kernel_rfl⟩

/-- jacquard/script.Picks -/
def c9 : FC :=
  .seq (.ops [
    ⟨(some 1), none, .box 27 (.tmp 0)⟩,
    ⟨(some 2), none, .mov (.val (.int .i64 0))⟩])
  (.seq (.ops [
    ⟨(some 3), none, .mov (.val (.int .i64 0))⟩])
  (.seq (.seq (.ops [
    ⟨(some 6), none, .faddr 0 (.tmp 1)⟩,
    ⟨(some 7), none, .load none (.tmp 6)⟩,
    ⟨(some 8), none, .len false (.tmp 7)⟩,
    ⟨(some 9), none, .mov (.val (.int .i64 0))⟩])
  (.block 0 (.loop (.seq (.ops [
        ⟨(some 10), none, .bin .lss .other (.tmp 9) (.tmp 8)⟩])
      (.seq (.cond (.tmp 10)
       (.skip)
       (.exit 0))
      (.seq (.block 1 (.seq (.ops [
          ⟨(some 11), none, .iaddr 6 (.tmp 7) (.tmp 9)⟩,
          ⟨(some 12), none, .load (some 6) (.tmp 11)⟩,
          ⟨(some 5), none, .alloc 40 [(.int .i64 0), (.int .i64 0), (.int .i64 0), (.int .i64 0), (.int .i64 0), (.int .i64 0)]⟩,
          ⟨none, none, .store 6 (.tmp 5) (.tmp 12)⟩])
        (.seq (.ops [
          ⟨(some 13), none, .faddr 0 (.tmp 5)⟩,
          ⟨(some 14), none, .load none (.tmp 13)⟩,
          ⟨(some 15), none, .bin .eql .other (.tmp 14) (.val (.int .i64 1))⟩])
        (.cond (.tmp 15)
         (.ops [
            ⟨(some 16), none, .mov (.tmp 3)⟩,
            ⟨(some 17), none, .bin .add .other (.tmp 16) (.val (.int .i64 1))⟩,
            ⟨(some 3), none, .mov (.tmp 17)⟩])
         (.skip)))))
      (.ops [
        ⟨(some 18), none, .bin .add .other (.tmp 9) (.val (.int .i64 1))⟩,
        ⟨(some 9), none, .mov (.tmp 18)⟩])))))))
  (.seq (.ops [
    ⟨(some 19), none, .mov (.tmp 3)⟩,
    ⟨(some 2), none, .mov (.tmp 19)⟩])
  (.ret))))
def e9 : FEnt := ⟨20, c9, [.tmp 2]⟩
theorem v9 : Valid Try.prog 9 e9 :=
  ⟨Try.f9, Try.f9.body.getD .skip, Try.func9, by kernel_rfl, by kernel_rfl, by kernel_rfl, by kernel_rfl, by kernel_rfl⟩

/-- jacquard/jacquardlaw21.much -/
def c10 : FC :=
  .seq (.ops [
    ⟨(some 1), none, .box 27 (.tmp 0)⟩,
    ⟨(some 2), none, .mov (.val (.bool false))⟩])
  (.seq (.ops [
    ⟨(some 3), none, .faddr 0 (.tmp 1)⟩,
    ⟨(some 4), none, .load none (.tmp 3)⟩,
    ⟨(some 5), none, .len false (.tmp 4)⟩,
    ⟨(some 6), none, .bin .gtr .other (.tmp 5) (.val (.int .i64 300))⟩,
    ⟨(some 7), none, .mov (.tmp 6)⟩,
    ⟨(some 8), some (7, false), .faddr 1 (.tmp 1)⟩,
    ⟨(some 9), some (7, false), .load none (.tmp 8)⟩,
    ⟨(some 10), some (7, false), .len false (.tmp 9)⟩,
    ⟨(some 11), some (7, false), .bin .gtr .other (.tmp 10) (.val (.int .i64 300))⟩,
    ⟨(some 12), none, .pick (.tmp 7) (.val (.bool true)) (.tmp 11)⟩,
    ⟨(some 2), none, .mov (.tmp 12)⟩])
  (.ret))
def e10 : FEnt := ⟨13, c10, [.tmp 2]⟩
theorem v10 : Valid Try.prog 10 e10 :=
  ⟨Try.f10, Try.f10.body.getD .skip, Try.func10, by kernel_rfl, by kernel_rfl, by kernel_rfl, by kernel_rfl, by kernel_rfl⟩

/-- jacquard/script.Erase -/
def c11 : FC :=
  .seq (.ops [
    ⟨(some 1), none, .box 27 (.tmp 0)⟩,
    ⟨(some 2), none, .alloc 27 [.nils, .nils]⟩])
  (.seq (.ops [
    ⟨(some 3), none, .alloc 27 [.nils, .nils]⟩])
  (.seq (.seq (.ops [
    ⟨(some 6), none, .faddr 0 (.tmp 1)⟩,
    ⟨(some 7), none, .load none (.tmp 6)⟩,
    ⟨(some 8), none, .len false (.tmp 7)⟩,
    ⟨(some 9), none, .mov (.val (.int .i64 0))⟩])
  (.block 0 (.loop (.seq (.ops [
        ⟨(some 10), none, .bin .lss .other (.tmp 9) (.tmp 8)⟩])
      (.seq (.cond (.tmp 10)
       (.skip)
       (.exit 0))
      (.seq (.block 1 (.seq (.ops [
          ⟨(some 11), none, .iaddr 6 (.tmp 7) (.tmp 9)⟩,
          ⟨(some 12), none, .load (some 6) (.tmp 11)⟩,
          ⟨(some 5), none, .alloc 40 [(.int .i64 0), (.int .i64 0), (.int .i64 0), (.int .i64 0), (.int .i64 0), (.int .i64 0)]⟩,
          ⟨none, none, .store 6 (.tmp 5) (.tmp 12)⟩])
        (.seq (.ops [
          ⟨(some 13), none, .faddr 0 (.tmp 5)⟩,
          ⟨(some 14), none, .load none (.tmp 13)⟩,
          ⟨(some 15), none, .bin .neq .other (.tmp 14) (.val (.int .i64 3))⟩])
        (.cond (.tmp 15)
         (.ops [
            ⟨(some 16), none, .faddr 0 (.tmp 3)⟩,
            ⟨(some 17), none, .load none (.tmp 16)⟩,
            ⟨(some 18), none, .load (some 6) (.tmp 5)⟩,
            ⟨(some 19), none, .bslice 40 6 [(.int .i64 0), (.int .i64 0), (.int .i64 0), (.int .i64 0), (.int .i64 0), (.int .i64 0)] 1 [(0, 6, (.tmp 18))]⟩,
            ⟨(some 20), none, .append 40 6 48 (.tmp 17) (.tmp 19)⟩,
            ⟨(some 21), none, .faddr 0 (.tmp 3)⟩,
            ⟨none, none, .store 1 (.tmp 21) (.tmp 20)⟩])
         (.skip)))))
      (.ops [
        ⟨(some 22), none, .bin .add .other (.tmp 9) (.val (.int .i64 1))⟩,
        ⟨(some 9), none, .mov (.tmp 22)⟩])))))))
  (.seq (.ops [
    ⟨(some 23), none, .faddr 1 (.tmp 1)⟩,
    ⟨(some 24), none, .load none (.tmp 23)⟩,
    ⟨(some 25), none, .call (.val (.fn 15 [])) [(.tmp 24)]⟩,
    ⟨(some 26), none, .faddr 1 (.tmp 3)⟩,
    ⟨none, none, .store 1 (.tmp 26) (.tmp 25)⟩])
  (.seq (.ops [
    ⟨(some 27), none, .load (some 2) (.tmp 3)⟩,
    ⟨none, none, .store 2 (.tmp 2) (.tmp 27)⟩])
  (.ret)))))
def e11 : FEnt := ⟨28, c11, [.cell 2 (some 2)]⟩
theorem v11 : Valid Try.prog 11 e11 :=
  ⟨Try.f11, Try.f11.body.getD .skip, Try.func11, by kernel_rfl, by kernel_rfl, by kernel_rfl, by kernel_rfl, by kernel_rfl⟩

/-- jacquard/jacquardref21.Erase -/
def c12 : FC :=
  .seq (.ops [
    ⟨(some 1), none, .box 27 (.tmp 0)⟩,
    ⟨(some 2), none, .alloc 27 [.nils, .nils]⟩])
  (.seq (.ops [
    ⟨(some 5), none, .bslice 3 1 [] 0 []⟩,
    ⟨(some 6), none, .faddr 1 (.tmp 1)⟩,
    ⟨(some 7), none, .load none (.tmp 6)⟩,
    ⟨(some 8), none, .append 3 1 8 (.tmp 5) (.tmp 7)⟩,
    ⟨(some 9), none, .build [.nils, .nils] [(1, 1, (.tmp 8))]⟩,
    ⟨(some 3), none, .alloc 27 [.nils, .nils]⟩,
    ⟨none, none, .store 2 (.tmp 3) (.tmp 9)⟩])
  (.seq (.seq (.ops [
    ⟨(some 4), none, .mov (.val (.int .i64 0))⟩])
  (.block 0 (.loop (.seq (.seq (.ops [
        ⟨(some 10), none, .mov (.tmp 4)⟩,
        ⟨(some 11), none, .faddr 0 (.tmp 1)⟩,
        ⟨(some 12), none, .load none (.tmp 11)⟩,
        ⟨(some 13), none, .len false (.tmp 12)⟩,
        ⟨(some 14), none, .bin .lss .other (.tmp 10) (.tmp 13)⟩])
      (.cond (.tmp 14)
       (.skip)
       (.exit 0)))
      (.seq (.block 1 (.seq (.ops [
          ⟨(some 17), none, .faddr 0 (.tmp 1)⟩,
          ⟨(some 18), none, .load none (.tmp 17)⟩,
          ⟨(some 19), none, .mov (.tmp 4)⟩,
          ⟨(some 20), none, .iaddr 6 (.tmp 18) (.tmp 19)⟩,
          ⟨(some 21), none, .faddr 0 (.tmp 20)⟩,
          ⟨(some 22), none, .load none (.tmp 21)⟩,
          ⟨(some 23), none, .bin .neq .other (.tmp 22) (.val (.int .i64 3))⟩])
        (.cond (.tmp 23)
         (.draw (.ops [
            ⟨(some 24), none, .faddr 0 (.tmp 3)⟩,
            ⟨(some 25), none, .load none (.tmp 24)⟩,
            ⟨(some 26), none, .faddr 0 (.tmp 1)⟩,
            ⟨(some 27), none, .load none (.tmp 26)⟩,
            ⟨(some 28), none, .mov (.tmp 4)⟩,
            ⟨(some 29), none, .iaddr 6 (.tmp 27) (.tmp 28)⟩,
            ⟨(some 30), none, .load (some 6) (.tmp 29)⟩,
            ⟨(some 31), none, .bslice 40 6 [(.int .i64 0), (.int .i64 0), (.int .i64 0), (.int .i64 0), (.int .i64 0), (.int .i64 0)] 1 [(0, 6, (.tmp 30))]⟩,
            ⟨(some 32), none, .append 40 6 48 (.tmp 25) (.tmp 31)⟩,
            ⟨(some 33), none, .faddr 0 (.tmp 3)⟩,
            ⟨none, none, .store 1 (.tmp 33) (.tmp 32)⟩] (.done)))
         (.skip))))
      (.ops [
        ⟨(some 15), none, .mov (.tmp 4)⟩,
        ⟨(some 16), none, .bin .add .other (.tmp 15) (.val (.int .i64 1))⟩,
        ⟨(some 4), none, .mov (.tmp 16)⟩]))))))
  (.seq (.ops [
    ⟨(some 34), none, .load (some 2) (.tmp 3)⟩,
    ⟨none, none, .store 2 (.tmp 2) (.tmp 34)⟩])
  (.ret))))
def e12 : FEnt := ⟨35, c12, [.cell 2 (some 2)]⟩
theorem v12 : Valid Try.prog 12 e12 :=
  ⟨Try.f12, Try.f12.body.getD .skip, Try.func12, by kernel_rfl, by kernel_rfl, by kernel_rfl, by kernel_rfl, by kernel_rfl⟩

/-- (*jacquard/script.reader).one -/
def c13 : FC :=
  .seq (.ops [
    ⟨(some 8), none, .mov (.tmp 0)⟩,
    ⟨(some 9), none, .nilchk (.tmp 8)⟩,
    ⟨(some 10), none, .faddr 1 (.tmp 9)⟩,
    ⟨(some 11), none, .load none (.tmp 10)⟩,
    ⟨(some 4), none, .mov (.tmp 11)⟩])
  (.seq (.draw (.ops [
    ⟨(some 12), none, .mov (.tmp 0)⟩,
    ⟨(some 13), none, .nilchk (.tmp 12)⟩,
    ⟨(some 14), none, .faddr 0 (.tmp 13)⟩,
    ⟨(some 15), none, .load none (.tmp 14)⟩,
    ⟨(some 16), none, .mov (.tmp 0)⟩,
    ⟨(some 17), none, .nilchk (.tmp 16)⟩,
    ⟨(some 18), none, .faddr 1 (.tmp 17)⟩,
    ⟨(some 19), none, .load none (.tmp 18)⟩,
    ⟨(some 20), none, .slice 5 1 (.tmp 15) (some (.tmp 19)) none none⟩,
    ⟨(some 5), none, .mov (.tmp 20)⟩] (.done)))
  (.seq (.ops [
    ⟨(some 21), none, .build [(.int .i64 0), (.int .i64 0), (.int .i64 0), (.int .i64 0), (.int .i64 0), (.int .i64 0)] []⟩,
    ⟨(some 6), none, .alloc 40 [(.int .i64 0), (.int .i64 0), (.int .i64 0), (.int .i64 0), (.int .i64 0), (.int .i64 0)]⟩,
    ⟨none, none, .store 6 (.tmp 6) (.tmp 21)⟩])
  (.seq (.block 0 (.seq (.ops [
      ⟨(some 50), none, .mov (.tmp 5)⟩,
      ⟨(some 51), none, .bslice 5 1 [(.int .u8 0)] 1 [(0, 1, (.val (.int .u8 112)))]⟩,
      ⟨(some 52), none, .s2b 5 true (.tmp 51)⟩,
      ⟨(some 53), none, .call (.val (.fn 16 [])) [(.tmp 50), (.tmp 52)]⟩,
      ⟨(some 49), none, .mov (.tmp 53)⟩])
    (.cond (.tmp 49)
     (.seq (.ops [
        ⟨(some 54), none, .mov (.tmp 0)⟩,
        ⟨(some 55), none, .call (.val (.fn 17 [])) [(.tmp 54), (.val (.str ⟨#[112, 105, 99, 107]⟩))]⟩])
      (.seq (.ops [
        ⟨(some 56), none, .mov (.tmp 0)⟩,
        ⟨(some 57), none, .mov (.tmp 1)⟩,
        ⟨(some 58), none, .nilchk (.tmp 57)⟩,
        ⟨(some 59), none, .faddr 0 (.tmp 58)⟩,
        ⟨(some 60), none, .load none (.tmp 59)⟩,
        ⟨(some 61), none, .len false (.tmp 60)⟩,
        ⟨(some 62), none, .mov (.tmp 4)⟩,
        ⟨(some 63), none, .call (.val (.fn 18 [])) [(.tmp 56), (.tmp 61), (.tmp 62)]⟩])
      (.seq (.ops [
        ⟨(some 64), none, .mov (.tmp 0)⟩,
        ⟨(some 65), none, .call (.val (.fn 19 [])) [(.tmp 64), (.val (.int .i64 0)), (.val (.int .i64 2305843009213693951))]⟩,
        ⟨(some 66), none, .build [(.int .i64 0), (.int .i64 0), (.int .i64 0), (.int .i64 0), (.int .i64 0), (.int .i64 0)] [(0, 1, (.val (.int .i64 1))), (1, 1, (.tmp 65))]⟩,
        ⟨none, none, .store 6 (.tmp 6) (.tmp 66)⟩])
      (.ops [
        ⟨(some 67), none, .mov (.tmp 0)⟩,
        ⟨(some 68), none, .call (.val (.fn 20 [])) [(.tmp 67), (.val (.int .i64 1)), (.val (.int .i64 64))]⟩,
        ⟨(some 69), none, .faddr 2 (.tmp 6)⟩,
        ⟨none, none, .store 1 (.tmp 69) (.tmp 68)⟩]))))
     (.seq (.ops [
        ⟨(some 71), none, .mov (.tmp 5)⟩,
        ⟨(some 72), none, .bslice 5 1 [(.int .u8 0), (.int .u8 0)] 2 [(0, 1, (.val (.int .u8 116))), (1, 1, (.val (.int .u8 105)))]⟩,
        ⟨(some 73), none, .s2b 5 true (.tmp 72)⟩,
        ⟨(some 74), none, .call (.val (.fn 16 [])) [(.tmp 71), (.tmp 73)]⟩,
        ⟨(some 70), none, .mov (.tmp 74)⟩])
      (.cond (.tmp 70)
       (.seq (.ops [
          ⟨(some 75), none, .mov (.tmp 0)⟩,
          ⟨(some 76), none, .call (.val (.fn 17 [])) [(.tmp 75), (.val (.str ⟨#[116, 105]⟩))]⟩])
        (.seq (.draw (.ops [
          ⟨(some 77), none, .mov (.tmp 0)⟩,
          ⟨(some 78), none, .nilchk (.tmp 77)⟩,
          ⟨(some 79), none, .faddr 1 (.tmp 78)⟩,
          ⟨(some 80), none, .load none (.tmp 79)⟩,
          ⟨(some 81), none, .mov (.tmp 0)⟩,
          ⟨(some 82), none, .nilchk (.tmp 81)⟩,
          ⟨(some 83), none, .faddr 0 (.tmp 82)⟩,
          ⟨(some 84), none, .load none (.tmp 83)⟩,
          ⟨(some 85), none, .len false (.tmp 84)⟩,
          ⟨(some 86), none, .bin .lss .other (.tmp 80) (.tmp 85)⟩,
          ⟨(some 87), none, .mov (.tmp 86)⟩,
          ⟨(some 88), some (87, true), .mov (.tmp 0)⟩,
          ⟨(some 89), some (87, true), .nilchk (.tmp 88)⟩,
          ⟨(some 90), some (87, true), .faddr 0 (.tmp 89)⟩,
          ⟨(some 91), some (87, true), .load none (.tmp 90)⟩,
          ⟨(some 92), some (87, true), .mov (.tmp 0)⟩,
          ⟨(some 93), some (87, true), .nilchk (.tmp 92)⟩,
          ⟨(some 94), some (87, true), .faddr 1 (.tmp 93)⟩,
          ⟨(some 95), some (87, true), .load none (.tmp 94)⟩,
          ⟨(some 96), some (87, true), .iaddr 1 (.tmp 91) (.tmp 95)⟩,
          ⟨(some 97), some (87, true), .load none (.tmp 96)⟩,
          ⟨(some 98), some (87, true), .bin .eql .other (.tmp 97) (.val (.int .u8 101))⟩,
          ⟨(some 99), none, .pick (.tmp 87) (.tmp 98) (.val (.bool false))⟩] (.done)))
        (.cond (.tmp 99)
         (.seq (.ops [
            ⟨(some 100), none, .mov (.tmp 0)⟩,
            ⟨(some 101), none, .call (.val (.fn 17 [])) [(.tmp 100), (.val (.str ⟨#[101, 114]⟩))]⟩])
          (.seq (.ops [
            ⟨(some 102), none, .mov (.tmp 0)⟩,
            ⟨(some 103), none, .mov (.tmp 1)⟩,
            ⟨(some 104), none, .nilchk (.tmp 103)⟩,
            ⟨(some 105), none, .faddr 0 (.tmp 104)⟩,
            ⟨(some 106), none, .load none (.tmp 105)⟩,
            ⟨(some 107), none, .len false (.tmp 106)⟩,
            ⟨(some 108), none, .mov (.tmp 4)⟩,
            ⟨(some 109), none, .call (.val (.fn 18 [])) [(.tmp 102), (.tmp 107), (.tmp 108)]⟩])
          (.seq (.ops [
            ⟨(some 110), none, .mov (.tmp 0)⟩,
            ⟨(some 111), none, .call (.val (.fn 19 [])) [(.tmp 110), (.val (.int .i64 0)), (.val (.int .i64 1023))]⟩,
            ⟨(some 112), none, .build [(.int .i64 0), (.int .i64 0), (.int .i64 0), (.int .i64 0), (.int .i64 0), (.int .i64 0)] [(0, 1, (.val (.int .i64 3))), (1, 1, (.tmp 111))]⟩,
            ⟨none, none, .store 6 (.tmp 6) (.tmp 112)⟩])
          (.seq (.ops [
            ⟨(some 113), none, .mov (.tmp 0)⟩,
            ⟨(some 114), none, .call (.val (.fn 20 [])) [(.tmp 113), (.val (.int .i64 0)), (.val (.int .i64 1))]⟩,
            ⟨(some 115), none, .faddr 3 (.tmp 6)⟩,
            ⟨(some 116), none, .faddr 0 (.tmp 115)⟩,
            ⟨none, none, .store 1 (.tmp 116) (.tmp 114)⟩])
          (.seq (.ops [
            ⟨(some 117), none, .mov (.tmp 0)⟩,
            ⟨(some 118), none, .call (.val (.fn 20 [])) [(.tmp 117), (.val (.int .i64 0)), (.val (.int .i64 1))]⟩,
            ⟨(some 119), none, .faddr 3 (.tmp 6)⟩,
            ⟨(some 120), none, .faddr 1 (.tmp 119)⟩,
            ⟨none, none, .store 1 (.tmp 120) (.tmp 118)⟩])
          (.ops [
            ⟨(some 121), none, .mov (.tmp 0)⟩,
            ⟨(some 122), none, .call (.val (.fn 20 [])) [(.tmp 121), (.val (.int .i64 0)), (.val (.int .i64 4))]⟩,
            ⟨(some 123), none, .faddr 3 (.tmp 6)⟩,
            ⟨(some 124), none, .faddr 2 (.tmp 123)⟩,
            ⟨none, none, .store 1 (.tmp 124) (.tmp 122)⟩]))))))
         (.seq (.ops [
            ⟨(some 125), none, .mov (.tmp 0)⟩,
            ⟨(some 126), none, .call (.val (.fn 17 [])) [(.tmp 125), (.val (.str ⟨#[99, 107]⟩))]⟩])
          (.seq (.ops [
            ⟨(some 127), none, .mov (.tmp 0)⟩,
            ⟨(some 128), none, .mov (.tmp 1)⟩,
            ⟨(some 129), none, .nilchk (.tmp 128)⟩,
            ⟨(some 130), none, .faddr 0 (.tmp 129)⟩,
            ⟨(some 131), none, .load none (.tmp 130)⟩,
            ⟨(some 132), none, .len false (.tmp 131)⟩,
            ⟨(some 133), none, .mov (.tmp 4)⟩,
            ⟨(some 134), none, .call (.val (.fn 18 [])) [(.tmp 127), (.tmp 132), (.tmp 133)]⟩])
          (.ops [
            ⟨(some 135), none, .mov (.tmp 0)⟩,
            ⟨(some 136), none, .call (.val (.fn 19 [])) [(.tmp 135), (.val (.int .i64 0)), (.val (.int .i64 1048576))]⟩,
            ⟨(some 137), none, .build [(.int .i64 0), (.int .i64 0), (.int .i64 0), (.int .i64 0), (.int .i64 0), (.int .i64 0)] [(0, 1, (.val (.int .i64 2))), (1, 1, (.tmp 136))]⟩,
            ⟨none, none, .store 6 (.tmp 6) (.tmp 137)⟩]))))))
       (.seq (.ops [
          ⟨(some 139), none, .mov (.tmp 5)⟩,
          ⟨(some 140), none, .bslice 5 1 [(.int .u8 0)] 1 [(0, 1, (.val (.int .u8 116)))]⟩,
          ⟨(some 141), none, .s2b 5 true (.tmp 140)⟩,
          ⟨(some 142), none, .call (.val (.fn 16 [])) [(.tmp 139), (.tmp 141)]⟩,
          ⟨(some 138), none, .mov (.tmp 142)⟩])
        (.cond (.tmp 138)
         (.ops [
            ⟨(some 143), none, .mov (.tmp 0)⟩,
            ⟨(some 144), none, .call (.val (.fn 17 [])) [(.tmp 143), (.val (.str ⟨#[116, 105]⟩))]⟩])
         (.seq (.ops [
            ⟨(some 22), none, .mov (.tmp 0)⟩,
            ⟨(some 23), none, .call (.val (.fn 17 [])) [(.tmp 22), (.val (.str ⟨#[100, 114, 97, 119]⟩))]⟩])
          (.seq (.ops [
            ⟨(some 24), none, .mov (.tmp 0)⟩,
            ⟨(some 25), none, .mov (.tmp 1)⟩,
            ⟨(some 26), none, .nilchk (.tmp 25)⟩,
            ⟨(some 27), none, .faddr 1 (.tmp 26)⟩,
            ⟨(some 28), none, .load none (.tmp 27)⟩,
            ⟨(some 29), none, .len false (.tmp 28)⟩,
            ⟨(some 30), none, .mov (.tmp 4)⟩,
            ⟨(some 31), none, .call (.val (.fn 18 [])) [(.tmp 24), (.tmp 29), (.tmp 30)]⟩])
          (.seq (.ops [
            ⟨(some 32), none, .mov (.tmp 0)⟩,
            ⟨(some 33), none, .call (.val (.fn 19 [])) [(.tmp 32), (.val (.int .i64 (-2305843009213693952))), (.val (.int .i64 2305843009213693951))]⟩,
            ⟨(some 7), none, .mov (.tmp 33)⟩])
          (.seq (.ops [
            ⟨(some 34), none, .mov (.tmp 0)⟩,
            ⟨(some 35), none, .nilchk (.tmp 34)⟩,
            ⟨(some 36), none, .faddr 2 (.tmp 35)⟩,
            ⟨(some 37), none, .load none (.tmp 36)⟩,
            ⟨(some 38), none, .bin .eql .other (.tmp 37) (.val (.int .i64 0))⟩])
          (.cond (.tmp 38)
           (.ops [
              ⟨(some 39), none, .mov (.tmp 1)⟩,
              ⟨(some 40), none, .mov (.tmp 1)⟩,
              ⟨(some 41), none, .nilchk (.tmp 40)⟩,
              ⟨(some 42), none, .faddr 1 (.tmp 41)⟩,
              ⟨(some 43), none, .load none (.tmp 42)⟩,
              ⟨(some 44), none, .mov (.tmp 7)⟩,
              ⟨(some 45), none, .bslice 3 1 [(.int .i64 0)] 1 [(0, 1, (.tmp 44))]⟩,
              ⟨(some 46), none, .append 3 1 8 (.tmp 43) (.tmp 45)⟩,
              ⟨(some 47), none, .nilchk (.tmp 39)⟩,
              ⟨(some 48), none, .faddr 1 (.tmp 47)⟩,
              ⟨none, none, .store 1 (.tmp 48) (.tmp 46)⟩])
           (.skip)))))))))))))
  (.seq (.ops [
    ⟨(some 145), none, .mov (.tmp 0)⟩,
    ⟨(some 146), none, .call (.val (.fn 17 [])) [(.tmp 145), (.val (.str ⟨#[10]⟩))]⟩])
  (.seq (.ops [
    ⟨(some 147), none, .mov (.tmp 0)⟩,
    ⟨(some 148), none, .nilchk (.tmp 147)⟩,
    ⟨(some 149), none, .faddr 2 (.tmp 148)⟩,
    ⟨(some 150), none, .load none (.tmp 149)⟩,
    ⟨(some 151), none, .bin .eql .other (.tmp 150) (.val (.int .i64 0))⟩,
    ⟨(some 152), none, .mov (.tmp 151)⟩,
    ⟨(some 153), some (152, true), .faddr 0 (.tmp 6)⟩,
    ⟨(some 154), some (152, true), .load none (.tmp 153)⟩,
    ⟨(some 155), some (152, true), .bin .neq .other (.tmp 154) (.val (.int .i64 0))⟩,
    ⟨(some 156), none, .pick (.tmp 152) (.tmp 155) (.val (.bool false))⟩])
  (.cond (.tmp 156)
   (.draw (.ops [
      ⟨(some 157), none, .mov (.tmp 1)⟩,
      ⟨(some 158), none, .mov (.tmp 1)⟩,
      ⟨(some 159), none, .nilchk (.tmp 158)⟩,
      ⟨(some 160), none, .faddr 0 (.tmp 159)⟩,
      ⟨(some 161), none, .load none (.tmp 160)⟩,
      ⟨(some 162), none, .load (some 6) (.tmp 6)⟩,
      ⟨(some 163), none, .bslice 40 6 [(.int .i64 0), (.int .i64 0), (.int .i64 0), (.int .i64 0), (.int .i64 0), (.int .i64 0)] 1 [(0, 6, (.tmp 162))]⟩,
      ⟨(some 164), none, .append 40 6 48 (.tmp 161) (.tmp 163)⟩,
      ⟨(some 165), none, .nilchk (.tmp 157)⟩,
      ⟨(some 166), none, .faddr 0 (.tmp 165)⟩,
      ⟨none, none, .store 1 (.tmp 166) (.tmp 164)⟩] (.done)))
   (.skip)))))))
def e13 : FEnt := ⟨167, c13, []⟩
theorem v13 : Valid Try.prog 13 e13 :=
  ⟨Try.f13, Try.f13.body.getD .skip, Try.func13, by kernel_rfl, by kernel_rfl, by kernel_rfl, by kernel_rfl, by kernel_rfl⟩

/-- jacquard/jacquardref21.Plain -/
def c14 : FC :=
  .seq (.ops [
    ⟨(some 1), none, .box 40 (.tmp 0)⟩,
    ⟨(some 2), none, .alloc 40 [(.int .i64 0), (.int .i64 0), (.int .i64 0), (.int .i64 0), (.int .i64 0), (.int .i64 0)]⟩])
  (.seq (.seq (.ops [
    ⟨(some 3), none, .faddr 0 (.tmp 1)⟩,
    ⟨(some 4), none, .load none (.tmp 3)⟩])
  (.block 0 (.seq (.ops [
      ⟨(some 6), none, .bin .eql .other (.tmp 4) (.val (.int .i64 1))⟩,
      ⟨(some 5), none, .mov (.tmp 6)⟩])
    (.cond (.tmp 5)
     (.seq (.ops [
        ⟨(some 7), none, .faddr 1 (.tmp 1)⟩,
        ⟨(some 8), none, .load none (.tmp 7)⟩,
        ⟨(some 9), none, .faddr 2 (.tmp 1)⟩,
        ⟨(some 10), none, .load none (.tmp 9)⟩,
        ⟨(some 11), none, .build [(.int .i64 0), (.int .i64 0), (.int .i64 0), (.int .i64 0), (.int .i64 0), (.int .i64 0)] [(0, 1, (.val (.int .i64 1))), (1, 1, (.tmp 8)), (2, 1, (.tmp 10))]⟩,
        ⟨none, none, .store 6 (.tmp 2) (.tmp 11)⟩])
      (.ret))
     (.seq (.ops [
        ⟨(some 13), none, .bin .eql .other (.tmp 4) (.val (.int .i64 2))⟩,
        ⟨(some 12), none, .mov (.tmp 13)⟩])
      (.cond (.tmp 12)
       (.seq (.ops [
          ⟨(some 14), none, .faddr 1 (.tmp 1)⟩,
          ⟨(some 15), none, .load none (.tmp 14)⟩,
          ⟨(some 16), none, .build [(.int .i64 0), (.int .i64 0), (.int .i64 0), (.int .i64 0), (.int .i64 0), (.int .i64 0)] [(0, 1, (.val (.int .i64 2))), (1, 1, (.tmp 15))]⟩,
          ⟨none, none, .store 6 (.tmp 2) (.tmp 16)⟩])
        (.ret))
       (.seq (.ops [
          ⟨(some 18), none, .bin .eql .other (.tmp 4) (.val (.int .i64 3))⟩,
          ⟨(some 17), none, .mov (.tmp 18)⟩])
        (.cond (.tmp 17)
         (.seq (.ops [
            ⟨(some 19), none, .faddr 1 (.tmp 1)⟩,
            ⟨(some 20), none, .load none (.tmp 19)⟩,
            ⟨(some 21), none, .faddr 3 (.tmp 1)⟩,
            ⟨(some 22), none, .load (some 3) (.tmp 21)⟩,
            ⟨(some 23), none, .build [(.int .i64 0), (.int .i64 0), (.int .i64 0), (.int .i64 0), (.int .i64 0), (.int .i64 0)] [(0, 1, (.val (.int .i64 3))), (1, 1, (.tmp 20)), (3, 3, (.tmp 22))]⟩,
            ⟨none, none, .store 6 (.tmp 2) (.tmp 23)⟩])
          (.ret))
         (.skip)))))))))
  (.seq (.ops [
    ⟨(some 24), none, .load (some 6) (.tmp 1)⟩,
    ⟨none, none, .store 6 (.tmp 2) (.tmp 24)⟩])
  (.ret)))
def e14 : FEnt := ⟨25, c14, [.cell 2 (some 6)]⟩
theorem v14 : Valid Try.prog 14 e14 :=
  ⟨Try.f14, Try.f14.body.getD .skip, Try.func14, by kernel_rfl, by kernel_rfl, by kernel_rfl, by kernel_rfl, by kernel_rfl⟩

/-- slices.Clone[[]int,int] -/
def c15 : FC :=
  .seq (.ops [
    ⟨(some 2), none, .mov (.val .nils)⟩])
  (.seq (.seq (.ops [
    ⟨(some 3), none, .mov (.tmp 0)⟩,
    ⟨(some 4), none, .bin .eql .slice (.tmp 3) (.val .nils)⟩])
  (.cond (.tmp 4)
   (.seq (.ops [
      ⟨(some 2), none, .mov (.val .nils)⟩])
    (.ret))
   (.skip)))
  (.seq (.ops [
    ⟨(some 5), none, .bslice 3 1 [] 0 []⟩,
    ⟨(some 6), none, .mov (.tmp 0)⟩,
    ⟨(some 7), none, .append 3 1 8 (.tmp 5) (.tmp 6)⟩,
    ⟨(some 2), none, .mov (.tmp 7)⟩])
  (.ret)))
def e15 : FEnt := ⟨8, c15, [.tmp 2]⟩
theorem v15 : Valid Try.prog 15 e15 :=
  ⟨Try.f15, Try.f15.body.getD .skip, Try.func15, by kernel_rfl, by kernel_rfl, by kernel_rfl, by kernel_rfl, by kernel_rfl⟩

/-- bytes.HasPrefix -/
def c16 : FC :=
  .seq (.ops [
    ⟨(some 4), none, .mov (.val (.bool false))⟩])
  (.seq (.ops [
    ⟨(some 5), none, .mov (.tmp 0)⟩,
    ⟨(some 6), none, .len false (.tmp 5)⟩,
    ⟨(some 7), none, .mov (.tmp 1)⟩,
    ⟨(some 8), none, .len false (.tmp 7)⟩,
    ⟨(some 9), none, .bin .geq .other (.tmp 6) (.tmp 8)⟩,
    ⟨(some 10), none, .mov (.tmp 9)⟩,
    ⟨(some 11), some (10, true), .mov (.tmp 0)⟩,
    ⟨(some 12), some (10, true), .mov (.tmp 1)⟩,
    ⟨(some 13), some (10, true), .len false (.tmp 12)⟩,
    ⟨(some 14), some (10, true), .slice 5 1 (.tmp 11) none (some (.tmp 13)) none⟩,
    ⟨(some 15), some (10, true), .mov (.tmp 1)⟩,
    ⟨(some 16), some (10, true), .call (.val (.fn 21 [])) [(.tmp 14), (.tmp 15)]⟩,
    ⟨(some 17), none, .pick (.tmp 10) (.tmp 16) (.val (.bool false))⟩,
    ⟨(some 4), none, .mov (.tmp 17)⟩])
  (.ret))
def e16 : FEnt := ⟨18, c16, [.tmp 4]⟩
theorem v16 : Valid Try.prog 16 e16 :=
  ⟨Try.f16, Try.f16.body.getD .skip, Try.func16, by kernel_rfl, by kernel_rfl, by kernel_rfl, by kernel_rfl, by kernel_rfl⟩

/-- (*jacquard/script.reader).want -/
def c17 : FC :=
  .seq (.ops [
    ⟨(some 4), none, .mov (.val (.int .i64 0))⟩])
  (.block 0 (.loop (.seq (.seq (.ops [
        ⟨(some 5), none, .mov (.tmp 4)⟩,
        ⟨(some 6), none, .mov (.tmp 1)⟩,
        ⟨(some 7), none, .len true (.tmp 6)⟩,
        ⟨(some 8), none, .bin .lss .other (.tmp 5) (.tmp 7)⟩,
        ⟨(some 9), none, .mov (.tmp 8)⟩,
        ⟨(some 10), some (9, true), .mov (.tmp 0)⟩,
        ⟨(some 11), some (9, true), .nilchk (.tmp 10)⟩,
        ⟨(some 12), some (9, true), .faddr 2 (.tmp 11)⟩,
        ⟨(some 13), some (9, true), .load none (.tmp 12)⟩,
        ⟨(some 14), some (9, true), .bin .eql .other (.tmp 13) (.val (.int .i64 0))⟩,
        ⟨(some 15), none, .pick (.tmp 9) (.tmp 14) (.val (.bool false))⟩])
      (.cond (.tmp 15)
       (.skip)
       (.exit 0)))
      (.seq (.block 1 (.seq (.seq (.draw (.ops [
          ⟨(some 18), none, .mov (.tmp 0)⟩,
          ⟨(some 19), none, .nilchk (.tmp 18)⟩,
          ⟨(some 20), none, .faddr 1 (.tmp 19)⟩,
          ⟨(some 21), none, .load none (.tmp 20)⟩,
          ⟨(some 22), none, .mov (.tmp 0)⟩,
          ⟨(some 23), none, .nilchk (.tmp 22)⟩,
          ⟨(some 24), none, .faddr 0 (.tmp 23)⟩,
          ⟨(some 25), none, .load none (.tmp 24)⟩,
          ⟨(some 26), none, .len false (.tmp 25)⟩,
          ⟨(some 27), none, .bin .eql .other (.tmp 21) (.tmp 26)⟩,
          ⟨(some 28), none, .mov (.tmp 27)⟩,
          ⟨(some 29), some (28, false), .mov (.tmp 0)⟩,
          ⟨(some 30), some (28, false), .nilchk (.tmp 29)⟩,
          ⟨(some 31), some (28, false), .faddr 0 (.tmp 30)⟩,
          ⟨(some 32), some (28, false), .load none (.tmp 31)⟩,
          ⟨(some 33), some (28, false), .mov (.tmp 0)⟩,
          ⟨(some 34), some (28, false), .nilchk (.tmp 33)⟩,
          ⟨(some 35), some (28, false), .faddr 1 (.tmp 34)⟩,
          ⟨(some 36), some (28, false), .load none (.tmp 35)⟩,
          ⟨(some 37), some (28, false), .iaddr 1 (.tmp 32) (.tmp 36)⟩,
          ⟨(some 38), some (28, false), .load none (.tmp 37)⟩,
          ⟨(some 39), some (28, false), .mov (.tmp 1)⟩,
          ⟨(some 40), some (28, false), .mov (.tmp 4)⟩,
          ⟨(some 41), some (28, false), .indexS (.tmp 39) (.tmp 40)⟩,
          ⟨(some 42), some (28, false), .bin .neq .other (.tmp 38) (.tmp 41)⟩,
          ⟨(some 43), none, .pick (.tmp 28) (.val (.bool true)) (.tmp 42)⟩] (.done)))
        (.cond (.tmp 43)
         (.seq (.ops [
            ⟨(some 44), none, .mov (.tmp 0)⟩,
            ⟨(some 45), none, .mov (.tmp 0)⟩,
            ⟨(some 46), none, .nilchk (.tmp 45)⟩,
            ⟨(some 47), none, .faddr 1 (.tmp 46)⟩,
            ⟨(some 48), none, .load none (.tmp 47)⟩,
            ⟨(some 49), none, .call (.val (.fn 22 [])) [(.tmp 44), (.val (.int .i64 6)), (.tmp 48)]⟩])
          (.ret))
         (.skip)))
        (.ops [
          ⟨(some 50), none, .mov (.tmp 0)⟩,
          ⟨(some 51), none, .nilchk (.tmp 50)⟩,
          ⟨(some 52), none, .faddr 1 (.tmp 51)⟩,
          ⟨(some 53), none, .load none (.tmp 52)⟩,
          ⟨(some 54), none, .bin .add .other (.tmp 53) (.val (.int .i64 1))⟩,
          ⟨(some 55), none, .nilchk (.tmp 50)⟩,
          ⟨(some 56), none, .faddr 1 (.tmp 55)⟩,
          ⟨none, none, .store 1 (.tmp 56) (.tmp 54)⟩])))
      (.ops [
        ⟨(some 16), none, .mov (.tmp 4)⟩,
        ⟨(some 17), none, .bin .add .other (.tmp 16) (.val (.int .i64 1))⟩,
        ⟨(some 4), none, .mov (.tmp 17)⟩])))))
def e17 : FEnt := ⟨57, c17, []⟩
theorem v17 : Valid Try.prog 17 e17 :=
  ⟨Try.f17, Try.f17.body.getD .skip, Try.func17, by kernel_rfl, by kernel_rfl, by kernel_rfl, by kernel_rfl, by kernel_rfl⟩

/-- (*jacquard/script.reader).more -/
def c18 : FC :=
  .seq (.ops [
    ⟨(some 6), none, .mov (.tmp 0)⟩,
    ⟨(some 7), none, .call (.val (.fn 17 [])) [(.tmp 6), (.val (.str ⟨#[32]⟩))]⟩])
  (.seq (.ops [
    ⟨(some 8), none, .mov (.tmp 0)⟩,
    ⟨(some 9), none, .nilchk (.tmp 8)⟩,
    ⟨(some 10), none, .faddr 2 (.tmp 9)⟩,
    ⟨(some 11), none, .load none (.tmp 10)⟩,
    ⟨(some 12), none, .bin .eql .other (.tmp 11) (.val (.int .i64 0))⟩,
    ⟨(some 13), none, .mov (.tmp 12)⟩,
    ⟨(some 14), some (13, true), .mov (.tmp 1)⟩,
    ⟨(some 15), some (13, true), .bin .eql .other (.tmp 14) (.val (.int .i64 65536))⟩,
    ⟨(some 16), none, .pick (.tmp 13) (.tmp 15) (.val (.bool false))⟩])
  (.cond (.tmp 16)
   (.ops [
      ⟨(some 17), none, .mov (.tmp 0)⟩,
      ⟨(some 18), none, .mov (.tmp 2)⟩,
      ⟨(some 19), none, .call (.val (.fn 22 [])) [(.tmp 17), (.val (.int .i64 3)), (.tmp 18)]⟩])
   (.skip)))
def e18 : FEnt := ⟨20, c18, []⟩
theorem v18 : Valid Try.prog 18 e18 :=
  ⟨Try.f18, Try.f18.body.getD .skip, Try.func18, by kernel_rfl, by kernel_rfl, by kernel_rfl, by kernel_rfl, by kernel_rfl⟩

/-- (*jacquard/script.reader).number -/
def c19 : FC :=
  .seq (.ops [
    ⟨(some 6), none, .mov (.val (.int .i64 0))⟩])
  (.scope (.seq (.ops [
    ⟨(some 7), none, .mov (.val (.int .i64 0))⟩,
    ⟨(some 8), none, .mov (.val (.int .i64 0))⟩,
    ⟨(some 9), none, .mov (.val (.int .i64 0))⟩])
  (.seq (.seq (.ops [
    ⟨(some 10), none, .mov (.tmp 0)⟩,
    ⟨(some 11), none, .nilchk (.tmp 10)⟩,
    ⟨(some 12), none, .faddr 2 (.tmp 11)⟩,
    ⟨(some 13), none, .load none (.tmp 12)⟩,
    ⟨(some 14), none, .bin .neq .other (.tmp 13) (.val (.int .i64 0))⟩])
  (.cond (.tmp 14)
   (.goto 0)
   (.skip)))
  (.seq (.ops [
    ⟨(some 15), none, .mov (.tmp 0)⟩,
    ⟨(some 16), none, .nilchk (.tmp 15)⟩,
    ⟨(some 17), none, .faddr 1 (.tmp 16)⟩,
    ⟨(some 18), none, .load none (.tmp 17)⟩,
    ⟨(some 8), none, .mov (.tmp 18)⟩,
    ⟨(some 9), none, .mov (.val (.int .i64 1))⟩])
  (.seq (.seq (.draw (.ops [
    ⟨(some 19), none, .mov (.tmp 1)⟩,
    ⟨(some 20), none, .bin .lss .other (.tmp 19) (.val (.int .i64 0))⟩,
    ⟨(some 21), none, .mov (.tmp 20)⟩,
    ⟨(some 22), some (21, true), .mov (.tmp 0)⟩,
    ⟨(some 23), some (21, true), .nilchk (.tmp 22)⟩,
    ⟨(some 24), some (21, true), .faddr 1 (.tmp 23)⟩,
    ⟨(some 25), some (21, true), .load none (.tmp 24)⟩,
    ⟨(some 26), some (21, true), .mov (.tmp 0)⟩,
    ⟨(some 27), some (21, true), .nilchk (.tmp 26)⟩,
    ⟨(some 28), some (21, true), .faddr 0 (.tmp 27)⟩,
    ⟨(some 29), some (21, true), .load none (.tmp 28)⟩,
    ⟨(some 30), some (21, true), .len false (.tmp 29)⟩,
    ⟨(some 31), some (21, true), .bin .lss .other (.tmp 25) (.tmp 30)⟩,
    ⟨(some 32), none, .pick (.tmp 21) (.tmp 31) (.val (.bool false))⟩,
    ⟨(some 33), none, .mov (.tmp 32)⟩,
    ⟨(some 34), some (33, true), .mov (.tmp 0)⟩,
    ⟨(some 35), some (33, true), .nilchk (.tmp 34)⟩,
    ⟨(some 36), some (33, true), .faddr 0 (.tmp 35)⟩,
    ⟨(some 37), some (33, true), .load none (.tmp 36)⟩,
    ⟨(some 38), some (33, true), .mov (.tmp 0)⟩,
    ⟨(some 39), some (33, true), .nilchk (.tmp 38)⟩,
    ⟨(some 40), some (33, true), .faddr 1 (.tmp 39)⟩,
    ⟨(some 41), some (33, true), .load none (.tmp 40)⟩,
    ⟨(some 42), some (33, true), .iaddr 1 (.tmp 37) (.tmp 41)⟩,
    ⟨(some 43), some (33, true), .load none (.tmp 42)⟩,
    ⟨(some 44), some (33, true), .bin .eql .other (.tmp 43) (.val (.int .u8 45))⟩,
    ⟨(some 45), none, .pick (.tmp 33) (.tmp 44) (.val (.bool false))⟩] (.done)))
  (.cond (.tmp 45)
   (.seq (.ops [
      ⟨(some 9), none, .mov (.val (.int .i64 (-1)))⟩])
    (.ops [
      ⟨(some 46), none, .mov (.tmp 0)⟩,
      ⟨(some 47), none, .nilchk (.tmp 46)⟩,
      ⟨(some 48), none, .faddr 1 (.tmp 47)⟩,
      ⟨(some 49), none, .load none (.tmp 48)⟩,
      ⟨(some 50), none, .bin .add .other (.tmp 49) (.val (.int .i64 1))⟩,
      ⟨(some 51), none, .nilchk (.tmp 46)⟩,
      ⟨(some 52), none, .faddr 1 (.tmp 51)⟩,
      ⟨none, none, .store 1 (.tmp 52) (.tmp 50)⟩]))
   (.skip)))
  (.seq (.seq (.draw (.ops [
    ⟨(some 53), none, .mov (.tmp 0)⟩,
    ⟨(some 54), none, .call (.val (.fn 23 [])) [(.tmp 53)]⟩,
    ⟨(some 55), none, .un .not (.tmp 54)⟩,
    ⟨(some 56), none, .mov (.tmp 55)⟩,
    ⟨(some 57), some (56, false), .mov (.tmp 9)⟩,
    ⟨(some 58), some (56, false), .bin .lss .other (.tmp 57) (.val (.int .i64 0))⟩,
    ⟨(some 59), some (56, false), .mov (.tmp 58)⟩,
    ⟨(some 60), some (59, true), .mov (.tmp 0)⟩,
    ⟨(some 61), some (59, true), .nilchk (.tmp 60)⟩,
    ⟨(some 62), some (59, true), .faddr 0 (.tmp 61)⟩,
    ⟨(some 63), some (59, true), .load none (.tmp 62)⟩,
    ⟨(some 64), some (59, true), .mov (.tmp 0)⟩,
    ⟨(some 65), some (59, true), .nilchk (.tmp 64)⟩,
    ⟨(some 66), some (59, true), .faddr 1 (.tmp 65)⟩,
    ⟨(some 67), some (59, true), .load none (.tmp 66)⟩,
    ⟨(some 68), some (59, true), .iaddr 1 (.tmp 63) (.tmp 67)⟩,
    ⟨(some 69), some (59, true), .load none (.tmp 68)⟩,
    ⟨(some 70), some (59, true), .bin .eql .other (.tmp 69) (.val (.int .u8 48))⟩,
    ⟨(some 71), some (56, false), .pick (.tmp 59) (.tmp 70) (.val (.bool false))⟩,
    ⟨(some 72), none, .pick (.tmp 56) (.val (.bool true)) (.tmp 71)⟩] (.done)))
  (.cond (.tmp 72)
   (.seq (.ops [
      ⟨(some 73), none, .mov (.tmp 0)⟩,
      ⟨(some 74), none, .mov (.tmp 0)⟩,
      ⟨(some 75), none, .nilchk (.tmp 74)⟩,
      ⟨(some 76), none, .faddr 1 (.tmp 75)⟩,
      ⟨(some 77), none, .load none (.tmp 76)⟩,
      ⟨(some 78), none, .call (.val (.fn 22 [])) [(.tmp 73), (.val (.int .i64 6)), (.tmp 77)]⟩])
    (.goto 0))
   (.skip)))
  (.seq (.seq (.draw (.ops [
    ⟨(some 79), none, .mov (.tmp 0)⟩,
    ⟨(some 80), none, .nilchk (.tmp 79)⟩,
    ⟨(some 81), none, .faddr 0 (.tmp 80)⟩,
    ⟨(some 82), none, .load none (.tmp 81)⟩,
    ⟨(some 83), none, .mov (.tmp 0)⟩,
    ⟨(some 84), none, .nilchk (.tmp 83)⟩,
    ⟨(some 85), none, .faddr 1 (.tmp 84)⟩,
    ⟨(some 86), none, .load none (.tmp 85)⟩,
    ⟨(some 87), none, .iaddr 1 (.tmp 82) (.tmp 86)⟩,
    ⟨(some 88), none, .load none (.tmp 87)⟩,
    ⟨(some 89), none, .bin .eql .other (.tmp 88) (.val (.int .u8 48))⟩] (.done)))
  (.cond (.tmp 89)
   (.seq (.ops [
      ⟨(some 90), none, .mov (.tmp 0)⟩,
      ⟨(some 91), none, .nilchk (.tmp 90)⟩,
      ⟨(some 92), none, .faddr 1 (.tmp 91)⟩,
      ⟨(some 93), none, .load none (.tmp 92)⟩,
      ⟨(some 94), none, .bin .add .other (.tmp 93) (.val (.int .i64 1))⟩,
      ⟨(some 95), none, .nilchk (.tmp 90)⟩,
      ⟨(some 96), none, .faddr 1 (.tmp 95)⟩,
      ⟨none, none, .store 1 (.tmp 96) (.tmp 94)⟩])
    (.seq (.ops [
      ⟨(some 97), none, .mov (.tmp 0)⟩,
      ⟨(some 98), none, .call (.val (.fn 23 [])) [(.tmp 97)]⟩])
    (.cond (.tmp 98)
     (.seq (.ops [
        ⟨(some 99), none, .mov (.tmp 0)⟩,
        ⟨(some 100), none, .mov (.tmp 0)⟩,
        ⟨(some 101), none, .nilchk (.tmp 100)⟩,
        ⟨(some 102), none, .faddr 1 (.tmp 101)⟩,
        ⟨(some 103), none, .load none (.tmp 102)⟩,
        ⟨(some 104), none, .call (.val (.fn 22 [])) [(.tmp 99), (.val (.int .i64 6)), (.tmp 103)]⟩])
      (.goto 0))
     (.skip))))
   (.skip)))
  (.seq (.block 0 (.loop (.seq (.seq (.ops [
        ⟨(some 105), none, .mov (.tmp 0)⟩,
        ⟨(some 106), none, .call (.val (.fn 23 [])) [(.tmp 105)]⟩])
      (.cond (.tmp 106)
       (.skip)
       (.exit 0)))
      (.seq (.block 1 (.seq (.ops [
          ⟨(some 114), none, .mov (.tmp 7)⟩,
          ⟨(some 115), none, .bin .leq .other (.tmp 114) (.val (.int .i64 288230376151711743))⟩])
        (.cond (.tmp 115)
         (.draw (.ops [
            ⟨(some 116), none, .mov (.tmp 7)⟩,
            ⟨(some 117), none, .bin .mul .other (.val (.int .i64 10)) (.tmp 116)⟩,
            ⟨(some 118), none, .mov (.tmp 0)⟩,
            ⟨(some 119), none, .nilchk (.tmp 118)⟩,
            ⟨(some 120), none, .faddr 0 (.tmp 119)⟩,
            ⟨(some 121), none, .load none (.tmp 120)⟩,
            ⟨(some 122), none, .mov (.tmp 0)⟩,
            ⟨(some 123), none, .nilchk (.tmp 122)⟩,
            ⟨(some 124), none, .faddr 1 (.tmp 123)⟩,
            ⟨(some 125), none, .load none (.tmp 124)⟩,
            ⟨(some 126), none, .iaddr 1 (.tmp 121) (.tmp 125)⟩,
            ⟨(some 127), none, .load none (.tmp 126)⟩,
            ⟨(some 128), none, .bin .sub .other (.tmp 127) (.val (.int .u8 48))⟩,
            ⟨(some 129), none, .conv .i64 (.tmp 128)⟩,
            ⟨(some 130), none, .bin .add .other (.tmp 117) (.tmp 129)⟩,
            ⟨(some 7), none, .mov (.tmp 130)⟩] (.done)))
         (.ops [
            ⟨(some 7), none, .mov (.val (.int .i64 2305843009213693953))⟩]))))
      (.ops [
        ⟨(some 107), none, .mov (.tmp 0)⟩,
        ⟨(some 108), none, .nilchk (.tmp 107)⟩,
        ⟨(some 109), none, .faddr 1 (.tmp 108)⟩,
        ⟨(some 110), none, .load none (.tmp 109)⟩,
        ⟨(some 111), none, .bin .add .other (.tmp 110) (.val (.int .i64 1))⟩,
        ⟨(some 112), none, .nilchk (.tmp 107)⟩,
        ⟨(some 113), none, .faddr 1 (.tmp 112)⟩,
        ⟨none, none, .store 1 (.tmp 113) (.tmp 111)⟩])))))
  (.seq (.seq (.ops [
    ⟨(some 131), none, .mov (.tmp 7)⟩,
    ⟨(some 132), none, .bin .gtr .other (.tmp 131) (.val (.int .i64 2305843009213693952))⟩,
    ⟨(some 133), none, .mov (.tmp 132)⟩,
    ⟨(some 134), some (133, false), .mov (.tmp 9)⟩,
    ⟨(some 135), some (133, false), .mov (.tmp 7)⟩,
    ⟨(some 136), some (133, false), .bin .mul .other (.tmp 134) (.tmp 135)⟩,
    ⟨(some 137), some (133, false), .mov (.tmp 1)⟩,
    ⟨(some 138), some (133, false), .mov (.tmp 2)⟩,
    ⟨(some 139), some (133, false), .call (.val (.fn 24 [])) [(.tmp 136), (.tmp 137), (.tmp 138)]⟩,
    ⟨(some 140), some (133, false), .un .not (.tmp 139)⟩,
    ⟨(some 141), none, .pick (.tmp 133) (.val (.bool true)) (.tmp 140)⟩])
  (.cond (.tmp 141)
   (.seq (.ops [
      ⟨(some 142), none, .mov (.tmp 0)⟩,
      ⟨(some 143), none, .mov (.tmp 8)⟩,
      ⟨(some 144), none, .call (.val (.fn 22 [])) [(.tmp 142), (.val (.int .i64 9)), (.tmp 143)]⟩])
    (.goto 0))
   (.skip)))
  (.seq (.seq (.ops [
    ⟨(some 145), none, .mov (.tmp 9)⟩,
    ⟨(some 146), none, .mov (.tmp 7)⟩,
    ⟨(some 147), none, .bin .mul .other (.tmp 145) (.tmp 146)⟩,
    ⟨(some 6), none, .mov (.tmp 147)⟩])
  (.ret))
  (.seq (.label 0)
  (.seq (.ops [
    ⟨(some 6), none, .mov (.val (.int .i64 0))⟩])
  (.ret)))))))))))))
def e19 : FEnt := ⟨148, c19, [.tmp 6]⟩
theorem v19 : Valid Try.prog 19 e19 :=
  ⟨Try.f19, Try.f19.body.getD .skip, Try.func19, by kernel_rfl, by kernel_rfl, by kernel_rfl, by kernel_rfl, by kernel_rfl⟩

/-- (*jacquard/script.reader).next -/
def c20 : FC :=
  .seq (.ops [
    ⟨(some 6), none, .mov (.val (.int .i64 0))⟩])
  (.seq (.ops [
    ⟨(some 7), none, .mov (.tmp 0)⟩,
    ⟨(some 8), none, .call (.val (.fn 17 [])) [(.tmp 7), (.val (.str ⟨#[32]⟩))]⟩])
  (.seq (.ops [
    ⟨(some 9), none, .mov (.tmp 0)⟩,
    ⟨(some 10), none, .mov (.tmp 1)⟩,
    ⟨(some 11), none, .mov (.tmp 2)⟩,
    ⟨(some 12), none, .call (.val (.fn 19 [])) [(.tmp 9), (.tmp 10), (.tmp 11)]⟩,
    ⟨(some 6), none, .mov (.tmp 12)⟩])
  (.ret)))
def e20 : FEnt := ⟨13, c20, [.tmp 6]⟩
theorem v20 : Valid Try.prog 20 e20 :=
  ⟨Try.f20, Try.f20.body.getD .skip, Try.func20, by kernel_rfl, by kernel_rfl, by kernel_rfl, by kernel_rfl, by kernel_rfl⟩

/-- bytes.Equal -/
def c21 : FC :=
  .seq (.ops [
    ⟨(some 4), none, .mov (.val (.bool false))⟩])
  (.seq (.ops [
    ⟨(some 5), none, .mov (.tmp 0)⟩,
    ⟨(some 6), none, .b2s (.tmp 5)⟩,
    ⟨(some 7), none, .mov (.tmp 1)⟩,
    ⟨(some 8), none, .b2s (.tmp 7)⟩,
    ⟨(some 9), none, .bin .eql .other (.tmp 6) (.tmp 8)⟩,
    ⟨(some 4), none, .mov (.tmp 9)⟩])
  (.ret))
def e21 : FEnt := ⟨10, c21, [.tmp 4]⟩
theorem v21 : Valid Try.prog 21 e21 :=
  ⟨Try.f21, Try.f21.body.getD .skip, Try.func21, by kernel_rfl, by kernel_rfl, by kernel_rfl, by kernel_rfl, by kernel_rfl⟩

/-- (*jacquard/script.reader).fail -/
def c22 : FC :=
  .seq (.ops [
    ⟨(some 6), none, .mov (.tmp 0)⟩,
    ⟨(some 7), none, .nilchk (.tmp 6)⟩,
    ⟨(some 8), none, .faddr 2 (.tmp 7)⟩,
    ⟨(some 9), none, .load none (.tmp 8)⟩,
    ⟨(some 10), none, .bin .eql .other (.tmp 9) (.val (.int .i64 0))⟩])
  (.cond (.tmp 10)
   (.ops [
      ⟨(some 11), none, .mov (.tmp 0)⟩,
      ⟨(some 12), none, .mov (.tmp 0)⟩,
      ⟨(some 13), none, .mov (.tmp 1)⟩,
      ⟨(some 14), none, .mov (.tmp 2)⟩,
      ⟨(some 15), none, .nilchk (.tmp 11)⟩,
      ⟨(some 16), none, .faddr 2 (.tmp 15)⟩,
      ⟨none, none, .store 1 (.tmp 16) (.tmp 13)⟩,
      ⟨(some 17), none, .nilchk (.tmp 12)⟩,
      ⟨(some 18), none, .faddr 1 (.tmp 17)⟩,
      ⟨none, none, .store 1 (.tmp 18) (.tmp 14)⟩])
   (.skip))
def e22 : FEnt := ⟨19, c22, []⟩
theorem v22 : Valid Try.prog 22 e22 :=
  ⟨Try.f22, Try.f22.body.getD .skip, Try.func22, by kernel_rfl, by kernel_rfl, by kernel_rfl, by kernel_rfl, by kernel_rfl⟩

/-- (*jacquard/script.reader).digit -/
def c23 : FC :=
  .seq (.ops [
    ⟨(some 2), none, .mov (.val (.bool false))⟩])
  (.seq (.draw (.ops [
    ⟨(some 3), none, .mov (.tmp 0)⟩,
    ⟨(some 4), none, .nilchk (.tmp 3)⟩,
    ⟨(some 5), none, .faddr 1 (.tmp 4)⟩,
    ⟨(some 6), none, .load none (.tmp 5)⟩,
    ⟨(some 7), none, .mov (.tmp 0)⟩,
    ⟨(some 8), none, .nilchk (.tmp 7)⟩,
    ⟨(some 9), none, .faddr 0 (.tmp 8)⟩,
    ⟨(some 10), none, .load none (.tmp 9)⟩,
    ⟨(some 11), none, .len false (.tmp 10)⟩,
    ⟨(some 12), none, .bin .lss .other (.tmp 6) (.tmp 11)⟩,
    ⟨(some 13), none, .mov (.tmp 12)⟩,
    ⟨(some 14), some (13, true), .mov (.tmp 0)⟩,
    ⟨(some 15), some (13, true), .nilchk (.tmp 14)⟩,
    ⟨(some 16), some (13, true), .faddr 0 (.tmp 15)⟩,
    ⟨(some 17), some (13, true), .load none (.tmp 16)⟩,
    ⟨(some 18), some (13, true), .mov (.tmp 0)⟩,
    ⟨(some 19), some (13, true), .nilchk (.tmp 18)⟩,
    ⟨(some 20), some (13, true), .faddr 1 (.tmp 19)⟩,
    ⟨(some 21), some (13, true), .load none (.tmp 20)⟩,
    ⟨(some 22), some (13, true), .iaddr 1 (.tmp 17) (.tmp 21)⟩,
    ⟨(some 23), some (13, true), .load none (.tmp 22)⟩,
    ⟨(some 24), some (13, true), .bin .geq .other (.tmp 23) (.val (.int .u8 48))⟩,
    ⟨(some 25), none, .pick (.tmp 13) (.tmp 24) (.val (.bool false))⟩,
    ⟨(some 26), none, .mov (.tmp 25)⟩,
    ⟨(some 27), some (26, true), .mov (.tmp 0)⟩,
    ⟨(some 28), some (26, true), .nilchk (.tmp 27)⟩,
    ⟨(some 29), some (26, true), .faddr 0 (.tmp 28)⟩,
    ⟨(some 30), some (26, true), .load none (.tmp 29)⟩,
    ⟨(some 31), some (26, true), .mov (.tmp 0)⟩,
    ⟨(some 32), some (26, true), .nilchk (.tmp 31)⟩,
    ⟨(some 33), some (26, true), .faddr 1 (.tmp 32)⟩,
    ⟨(some 34), some (26, true), .load none (.tmp 33)⟩,
    ⟨(some 35), some (26, true), .iaddr 1 (.tmp 30) (.tmp 34)⟩,
    ⟨(some 36), some (26, true), .load none (.tmp 35)⟩,
    ⟨(some 37), some (26, true), .bin .leq .other (.tmp 36) (.val (.int .u8 57))⟩,
    ⟨(some 38), none, .pick (.tmp 26) (.tmp 37) (.val (.bool false))⟩,
    ⟨(some 2), none, .mov (.tmp 38)⟩] (.done)))
  (.ret))
def e23 : FEnt := ⟨39, c23, [.tmp 2]⟩
theorem v23 : Valid Try.prog 23 e23 :=
  ⟨Try.f23, Try.f23.body.getD .skip, Try.func23, by kernel_rfl, by kernel_rfl, by kernel_rfl, by kernel_rfl, by kernel_rfl⟩

/-- jacquard/script.between -/
def c24 : FC :=
  .seq (.ops [
    ⟨(some 6), none, .mov (.val (.bool false))⟩])
  (.seq (.ops [
    ⟨(some 7), none, .mov (.tmp 0)⟩,
    ⟨(some 8), none, .mov (.tmp 1)⟩,
    ⟨(some 9), none, .bin .geq .other (.tmp 7) (.tmp 8)⟩,
    ⟨(some 10), none, .mov (.tmp 9)⟩,
    ⟨(some 11), some (10, true), .mov (.tmp 0)⟩,
    ⟨(some 12), some (10, true), .mov (.tmp 2)⟩,
    ⟨(some 13), some (10, true), .bin .leq .other (.tmp 11) (.tmp 12)⟩,
    ⟨(some 14), none, .pick (.tmp 10) (.tmp 13) (.val (.bool false))⟩,
    ⟨(some 6), none, .mov (.tmp 14)⟩])
  (.ret))
def e24 : FEnt := ⟨15, c24, [.tmp 6]⟩
theorem v24 : Valid Try.prog 24 e24 :=
  ⟨Try.f24, Try.f24.body.getD .skip, Try.func24, by kernel_rfl, by kernel_rfl, by kernel_rfl, by kernel_rfl, by kernel_rfl⟩

end Go.Proofs.Ytfbkogaijopcgaa
