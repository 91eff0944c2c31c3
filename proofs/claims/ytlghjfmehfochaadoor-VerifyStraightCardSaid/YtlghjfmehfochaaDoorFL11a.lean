/-
  OWN WORK (an AI agent). Part L11a of a walk by simplification over abstract heaps.
-/
import Derived.Test.YtlghjfmehfochaaDoorFP
import Derived.Test.YtlghjfmehfochaaDoorProg
import Derived.KernelRfl
set_option linter.all false
namespace Go.Proofs.YtlghjfmehfochaaDoor
open Go.F

/-- jacquard/jacquardlaw11.VerifyGrows -/
def c3 : FC :=
  .seq (.ops [
    ⟨(some 1), none, .box 26 (.tmp 0)⟩,
    ⟨(some 2), none, .mov (.val (.bool false))⟩])
  (.seq (.seq (.ops [
    ⟨(some 11), none, .load (some 4) (.tmp 1)⟩,
    ⟨(some 12), none, .call (.val (.fn 5 [])) [(.tmp 11)]⟩,
    ⟨(some 13), none, .mov (.tmp 12)⟩,
    ⟨(some 14), some (13, false), .faddr 0 (.tmp 1)⟩,
    ⟨(some 15), some (13, false), .load none (.tmp 14)⟩,
    ⟨(some 16), some (13, false), .len false (.tmp 15)⟩,
    ⟨(some 17), some (13, false), .bin .gtr .other (.tmp 16) (.val (.int .i64 20))⟩,
    ⟨(some 18), none, .pick (.tmp 13) (.val (.bool true)) (.tmp 17)⟩,
    ⟨(some 19), none, .mov (.tmp 18)⟩,
    ⟨(some 20), some (19, false), .faddr 3 (.tmp 1)⟩,
    ⟨(some 21), some (19, false), .load none (.tmp 20)⟩,
    ⟨(some 22), some (19, false), .bin .gtr .other (.tmp 21) (.val (.int .i64 1000))⟩,
    ⟨(some 23), none, .pick (.tmp 19) (.val (.bool true)) (.tmp 22)⟩])
  (.cond (.tmp 23)
   (.seq (.ops [
      ⟨(some 24), none, .call (.val (.fn 6 [])) []⟩,
      ⟨(some 2), none, .mov (.tmp 24)⟩])
    (.ret))
   (.skip)))
  (.seq (.ops [
    ⟨(some 26), none, .load (some 4) (.tmp 1)⟩,
    ⟨(some 27), none, .call (.val (.fn 7 [])) [(.tmp 26)]⟩,
    ⟨(some 25), none, .mov (.tmp 27)⟩,
    ⟨(some 28), none, .extract (.tmp 25) 0⟩,
    ⟨(some 29), none, .extract (.tmp 25) 1⟩,
    ⟨(some 30), none, .extract (.tmp 25) 2⟩,
    ⟨(some 3), none, .mov (.tmp 28)⟩,
    ⟨(some 4), none, .mov (.tmp 29)⟩,
    ⟨(some 5), none, .mov (.tmp 30)⟩])
  (.seq (.seq (.ops [
    ⟨(some 31), none, .mov (.tmp 5)⟩,
    ⟨(some 32), none, .call (.val (.fn 8 [])) [(.tmp 31)]⟩,
    ⟨(some 33), none, .bin .neq .other (.tmp 32) (.val (.int .i64 0))⟩])
  (.cond (.tmp 33)
   (.seq (.ops [
      ⟨(some 34), none, .call (.val (.fn 6 [])) []⟩,
      ⟨(some 2), none, .mov (.tmp 34)⟩])
    (.ret))
   (.skip)))
  (.seq (.drawR 18 (.op 0 [] ⟨(some 35), none, .bslice 38 6 [] 0 []⟩
  (.op 1 [] ⟨(some 36), none, .faddr 0 (.tmp 1)⟩
  (.op 2 [1] ⟨(some 37), none, .load none (.tmp 36)⟩
  (.op 3 [0, 1, 2] ⟨(some 38), none, .append 38 6 112 (.tmp 35) (.tmp 37)⟩
  (.op 4 [] ⟨(some 39), none, .bslice 9 1 [] 0 []⟩
  (.op 5 [] ⟨(some 40), none, .faddr 1 (.tmp 1)⟩
  (.op 6 [5] ⟨(some 41), none, .load none (.tmp 40)⟩
  (.op 7 [0, 1, 2, 3, 4, 5, 6] ⟨(some 42), none, .append 9 1 16 (.tmp 39) (.tmp 41)⟩
  (.op 8 [] ⟨(some 43), none, .bslice 9 1 [(.str ⟨#[]⟩)] 1 [(0, 1, (.val (.str ⟨#[109, 111, 114, 101]⟩)))]⟩
  (.op 9 [0, 1, 2, 3, 4, 5, 6, 7, 8] ⟨(some 44), none, .append 9 1 16 (.tmp 42) (.tmp 43)⟩
  (.op 10 [] ⟨(some 45), none, .faddr 2 (.tmp 1)⟩
  (.op 11 [10] ⟨(some 46), none, .load none (.tmp 45)⟩
  (.op 12 [] ⟨(some 47), none, .faddr 3 (.tmp 1)⟩
  (.op 13 [12] ⟨(some 48), none, .load none (.tmp 47)⟩
  (.op 14 [12, 13] ⟨(some 49), none, .bin .add .other (.tmp 48) (.val (.int .i64 1))⟩
  (.op 15 [0, 1, 2, 3, 4, 5, 6, 7, 8, 9, 10, 11, 12, 13, 14] ⟨(some 50), none, .build [.nils, .nils, .nils, (.int .i64 0)] [(0, 1, (.tmp 38)), (1, 1, (.tmp 44)), (2, 1, (.tmp 46)), (3, 1, (.tmp 49))]⟩
  (.op 16 [] ⟨(some 6), none, .alloc 26 [.nils, .nils, .nils, (.int .i64 0)]⟩
  (.op 17 [0, 1, 2, 3, 4, 5, 6, 7, 8, 9, 10, 11, 12, 13, 14, 15, 16] ⟨none, none, .store 4 (.tmp 6) (.tmp 50)⟩
  (.done))))))))))))))))))))
  (.seq (.seq (.ops [
    ⟨(some 7), none, .mov (.val (.int .i64 0))⟩])
  (.block 0 (.loop (.seq (.seq (.ops [
        ⟨(some 51), none, .mov (.tmp 7)⟩,
        ⟨(some 52), none, .faddr 0 (.tmp 6)⟩,
        ⟨(some 53), none, .load none (.tmp 52)⟩,
        ⟨(some 54), none, .len false (.tmp 53)⟩,
        ⟨(some 55), none, .bin .lss .other (.tmp 51) (.tmp 54)⟩])
      (.cond (.tmp 55)
       (.skip)
       (.exit 0)))
      (.seq (.block 1 (.seq (.seq (.ops [
          ⟨(some 58), none, .faddr 0 (.tmp 6)⟩,
          ⟨(some 59), none, .load none (.tmp 58)⟩,
          ⟨(some 60), none, .mov (.tmp 7)⟩,
          ⟨(some 61), none, .iaddr 6 (.tmp 59) (.tmp 60)⟩,
          ⟨(some 62), none, .faddr 4 (.tmp 61)⟩,
          ⟨(some 63), none, .load none (.tmp 62)⟩,
          ⟨(some 64), none, .len false (.tmp 63)⟩,
          ⟨(some 65), none, .bin .gtr .other (.tmp 64) (.val (.int .i64 60000))⟩])
        (.cond (.tmp 65)
         (.seq (.ops [
            ⟨(some 66), none, .call (.val (.fn 6 [])) []⟩,
            ⟨(some 2), none, .mov (.tmp 66)⟩])
          (.ret))
         (.skip)))
        (.drawR 17 (.op 0 [] ⟨(some 67), none, .faddr 0 (.tmp 6)⟩
        (.op 1 [0] ⟨(some 68), none, .load none (.tmp 67)⟩
        (.op 2 [] ⟨(some 69), none, .mov (.tmp 7)⟩
        (.op 3 [] ⟨(some 70), none, .bslice 40 3 [] 0 []⟩
        (.op 4 [] ⟨(some 71), none, .faddr 0 (.tmp 6)⟩
        (.op 5 [4] ⟨(some 72), none, .load none (.tmp 71)⟩
        (.op 6 [] ⟨(some 73), none, .mov (.tmp 7)⟩
        (.op 7 [4, 5, 6] ⟨(some 74), none, .iaddr 6 (.tmp 72) (.tmp 73)⟩
        (.op 8 [4, 5, 6, 7] ⟨(some 75), none, .faddr 4 (.tmp 74)⟩
        (.op 9 [4, 5, 6, 7, 8] ⟨(some 76), none, .load none (.tmp 75)⟩
        (.op 10 [3, 4, 5, 6, 7, 8, 9] ⟨(some 77), none, .append 40 3 24 (.tmp 70) (.tmp 76)⟩
        (.op 11 [] ⟨(some 78), none, .build [(.int .i64 0), (.int .i64 0), (.int .i64 0)] [(0, 1, (.val (.int .i64 27)))]⟩
        (.op 12 [11] ⟨(some 79), none, .bslice 40 3 [(.int .i64 0), (.int .i64 0), (.int .i64 0)] 1 [(0, 3, (.tmp 78))]⟩
        (.op 13 [3, 4, 5, 6, 7, 8, 9, 10, 11, 12] ⟨(some 80), none, .append 40 3 24 (.tmp 77) (.tmp 79)⟩
        (.op 14 [0, 1, 2, 3, 4, 5, 6, 7, 8, 9, 10, 11, 12, 13] ⟨(some 81), none, .iaddr 6 (.tmp 68) (.tmp 69)⟩
        (.op 15 [0, 1, 2, 3, 4, 5, 6, 7, 8, 9, 10, 11, 12, 13, 14] ⟨(some 82), none, .faddr 4 (.tmp 81)⟩
        (.op 16 [0, 1, 2, 3, 4, 5, 6, 7, 8, 9, 10, 11, 12, 13, 14, 15] ⟨none, none, .store 1 (.tmp 82) (.tmp 80)⟩
        (.done)))))))))))))))))))))
      (.ops [
        ⟨(some 56), none, .mov (.tmp 7)⟩,
        ⟨(some 57), none, .bin .add .other (.tmp 56) (.val (.int .i64 1))⟩,
        ⟨(some 7), none, .mov (.tmp 57)⟩]))))))
  (.seq (.ops [
    ⟨(some 83), none, .faddr 0 (.tmp 6)⟩,
    ⟨(some 84), none, .load none (.tmp 83)⟩,
    ⟨(some 85), none, .build [(.int .i64 0), (.int .i64 0), (.int .i64 0)] [(0, 1, (.val (.int .i64 1)))]⟩,
    ⟨(some 86), none, .build [(.int .i64 0), (.int .i64 0), (.int .i64 0)] [(0, 1, (.val (.int .i64 27)))]⟩,
    ⟨(some 87), none, .bslice 40 3 [(.int .i64 0), (.int .i64 0), (.int .i64 0), (.int .i64 0), (.int .i64 0), (.int .i64 0)] 2 [(0, 3, (.tmp 85)), (3, 3, (.tmp 86))]⟩,
    ⟨(some 88), none, .build [(.int .i64 0), (.int .i64 0), .nils, .nils, .nils, .nils] [(4, 1, (.tmp 87))]⟩,
    ⟨(some 89), none, .bslice 38 6 [(.int .i64 0), (.int .i64 0), .nils, .nils, .nils, .nils] 1 [(0, 6, (.tmp 88))]⟩,
    ⟨(some 90), none, .append 38 6 112 (.tmp 84) (.tmp 89)⟩,
    ⟨(some 91), none, .faddr 0 (.tmp 6)⟩,
    ⟨none, none, .store 1 (.tmp 91) (.tmp 90)⟩])
  (.seq (.ops [
    ⟨(some 93), none, .load (some 4) (.tmp 6)⟩,
    ⟨(some 94), none, .call (.val (.fn 7 [])) [(.tmp 93)]⟩,
    ⟨(some 92), none, .mov (.tmp 94)⟩,
    ⟨(some 95), none, .extract (.tmp 92) 0⟩,
    ⟨(some 96), none, .extract (.tmp 92) 1⟩,
    ⟨(some 97), none, .extract (.tmp 92) 2⟩,
    ⟨(some 8), none, .mov (.tmp 95)⟩,
    ⟨(some 9), none, .mov (.tmp 96)⟩,
    ⟨(some 10), none, .mov (.tmp 97)⟩])
  (.seq (.ops [
    ⟨(some 98), none, .mov (.tmp 10)⟩,
    ⟨(some 99), none, .call (.val (.fn 8 [])) [(.tmp 98)]⟩,
    ⟨(some 100), none, .bin .eql .other (.tmp 99) (.val (.int .i64 0))⟩,
    ⟨(some 101), none, .mov (.tmp 100)⟩,
    ⟨(some 102), some (101, true), .call (.val (.fn 6 [])) []⟩,
    ⟨(some 103), none, .pick (.tmp 101) (.tmp 102) (.val (.bool false))⟩,
    ⟨(some 2), none, .mov (.tmp 103)⟩])
  (.ret)))))))))
def e3 : FEnt := ⟨104, c3, [.tmp 2]⟩
theorem v3 : Valid Tryd.prog 3 e3 :=
  ⟨Tryd.f3, Tryd.f3.body.getD .skip, Tryd.func3, by kernel_rfl, by kernel_rfl, by kernel_rfl, by kernel_rfl, by kernel_rfl⟩

/-- jacquard/jacquardlaw11.VerifyStraight -/
def c4 : FC :=
  .seq (.ops [
    ⟨(some 2), none, .mov (.val (.bool false))⟩])
  (.seq (.seq (.ops [
    ⟨(some 14), none, .mov (.tmp 0)⟩,
    ⟨(some 15), none, .bin .lss .other (.tmp 14) (.val (.int .i64 1))⟩,
    ⟨(some 16), none, .mov (.tmp 15)⟩,
    ⟨(some 17), some (16, false), .mov (.tmp 0)⟩,
    ⟨(some 18), some (16, false), .bin .gtr .other (.tmp 17) (.val (.int .i64 300))⟩,
    ⟨(some 19), none, .pick (.tmp 16) (.val (.bool true)) (.tmp 18)⟩])
  (.cond (.tmp 19)
   (.seq (.ops [
      ⟨(some 20), none, .call (.val (.fn 6 [])) []⟩,
      ⟨(some 2), none, .mov (.tmp 20)⟩])
    (.ret))
   (.skip)))
  (.seq (.ops [
    ⟨(some 3), none, .mov (.val .nils)⟩])
  (.seq (.seq (.ops [
    ⟨(some 4), none, .mov (.val (.int .i64 0))⟩])
  (.block 0 (.loop (.seq (.seq (.ops [
        ⟨(some 21), none, .mov (.tmp 4)⟩,
        ⟨(some 22), none, .mov (.tmp 0)⟩,
        ⟨(some 23), none, .bin .lss .other (.tmp 21) (.tmp 22)⟩])
      (.cond (.tmp 23)
       (.skip)
       (.exit 0)))
      (.seq (.block 1 (.ops [
          ⟨(some 26), none, .mov (.tmp 3)⟩,
          ⟨(some 27), none, .mov (.tmp 4)⟩,
          ⟨(some 28), none, .build [(.int .i64 0), (.int .i64 0), (.int .i64 0)] [(0, 1, (.val (.int .i64 0))), (1, 1, (.tmp 27))]⟩,
          ⟨(some 29), none, .bslice 40 3 [(.int .i64 0), (.int .i64 0), (.int .i64 0)] 1 [(0, 3, (.tmp 28))]⟩,
          ⟨(some 30), none, .append 40 3 24 (.tmp 26) (.tmp 29)⟩,
          ⟨(some 3), none, .mov (.tmp 30)⟩]))
      (.ops [
        ⟨(some 24), none, .mov (.tmp 4)⟩,
        ⟨(some 25), none, .bin .add .other (.tmp 24) (.val (.int .i64 1))⟩,
        ⟨(some 4), none, .mov (.tmp 25)⟩]))))))
  (.seq (.seq (.ops [
    ⟨(some 5), none, .mov (.val (.int .i64 1))⟩])
  (.block 2 (.loop (.seq (.seq (.ops [
        ⟨(some 31), none, .mov (.tmp 5)⟩,
        ⟨(some 32), none, .mov (.tmp 0)⟩,
        ⟨(some 33), none, .bin .lss .other (.tmp 31) (.tmp 32)⟩])
      (.cond (.tmp 33)
       (.skip)
       (.exit 2)))
      (.seq (.block 3 (.ops [
          ⟨(some 36), none, .mov (.tmp 3)⟩,
          ⟨(some 37), none, .build [(.int .i64 0), (.int .i64 0), (.int .i64 0)] [(0, 1, (.val (.int .i64 4)))]⟩,
          ⟨(some 38), none, .bslice 40 3 [(.int .i64 0), (.int .i64 0), (.int .i64 0)] 1 [(0, 3, (.tmp 37))]⟩,
          ⟨(some 39), none, .append 40 3 24 (.tmp 36) (.tmp 38)⟩,
          ⟨(some 3), none, .mov (.tmp 39)⟩]))
      (.ops [
        ⟨(some 34), none, .mov (.tmp 5)⟩,
        ⟨(some 35), none, .bin .add .other (.tmp 34) (.val (.int .i64 1))⟩,
        ⟨(some 5), none, .mov (.tmp 35)⟩]))))))
  (.seq (.ops [
    ⟨(some 40), none, .mov (.tmp 3)⟩,
    ⟨(some 41), none, .build [(.int .i64 0), (.int .i64 0), (.int .i64 0)] [(0, 1, (.val (.int .i64 27)))]⟩,
    ⟨(some 42), none, .bslice 40 3 [(.int .i64 0), (.int .i64 0), (.int .i64 0)] 1 [(0, 3, (.tmp 41))]⟩,
    ⟨(some 43), none, .append 40 3 24 (.tmp 40) (.tmp 42)⟩,
    ⟨(some 3), none, .mov (.tmp 43)⟩])
  (.seq (.ops [
    ⟨(some 44), none, .mov (.tmp 3)⟩,
    ⟨(some 45), none, .build [(.int .i64 0), (.int .i64 0), .nils, .nils, .nils, .nils] [(4, 1, (.tmp 44))]⟩,
    ⟨(some 46), none, .bslice 38 6 [(.int .i64 0), (.int .i64 0), .nils, .nils, .nils, .nils] 1 [(0, 6, (.tmp 45))]⟩,
    ⟨(some 47), none, .build [.nils, .nils, .nils, (.int .i64 0)] [(0, 1, (.tmp 46))]⟩,
    ⟨(some 6), none, .alloc 26 [.nils, .nils, .nils, (.int .i64 0)]⟩,
    ⟨none, none, .store 4 (.tmp 6) (.tmp 47)⟩])
  (.seq (.ops [
    ⟨(some 49), none, .load (some 4) (.tmp 6)⟩,
    ⟨(some 50), none, .call (.val (.fn 7 [])) [(.tmp 49)]⟩,
    ⟨(some 48), none, .mov (.tmp 50)⟩,
    ⟨(some 51), none, .extract (.tmp 48) 0⟩,
    ⟨(some 52), none, .extract (.tmp 48) 1⟩,
    ⟨(some 53), none, .extract (.tmp 48) 2⟩,
    ⟨(some 7), none, .mov (.tmp 51)⟩,
    ⟨(some 8), none, .mov (.tmp 52)⟩,
    ⟨(some 9), none, .mov (.tmp 53)⟩])
  (.seq (.ops [
    ⟨(some 55), none, .load (some 4) (.tmp 6)⟩,
    ⟨(some 56), none, .call (.val (.fn 9 [])) [(.tmp 55), (.val (.int .i64 0))]⟩,
    ⟨(some 54), none, .mov (.tmp 56)⟩,
    ⟨(some 57), none, .extract (.tmp 54) 0⟩,
    ⟨(some 58), none, .extract (.tmp 54) 1⟩,
    ⟨(some 10), none, .mov (.tmp 57)⟩,
    ⟨(some 11), none, .mov (.tmp 58)⟩])
  (.seq (.seq (.ops [
    ⟨(some 59), none, .mov (.tmp 0)⟩,
    ⟨(some 60), none, .bin .gtr .other (.tmp 59) (.val (.int .i64 256))⟩])
  (.cond (.tmp 60)
   (.seq (.ops [
      ⟨(some 61), none, .mov (.tmp 9)⟩,
      ⟨(some 62), none, .call (.val (.fn 8 [])) [(.tmp 61)]⟩,
      ⟨(some 63), none, .bin .eql .other (.tmp 62) (.val (.int .i64 6))⟩,
      ⟨(some 64), none, .mov (.tmp 63)⟩,
      ⟨(some 65), some (64, true), .mov (.tmp 8)⟩,
      ⟨(some 66), some (64, true), .bin .eql .other (.tmp 65) (.val (.int .i64 256))⟩,
      ⟨(some 67), none, .pick (.tmp 64) (.tmp 66) (.val (.bool false))⟩,
      ⟨(some 68), none, .mov (.tmp 67)⟩,
      ⟨(some 69), some (68, true), .mov (.tmp 11)⟩,
      ⟨(some 70), some (68, true), .call (.val (.fn 8 [])) [(.tmp 69)]⟩,
      ⟨(some 71), some (68, true), .bin .eql .other (.tmp 70) (.val (.int .i64 6))⟩,
      ⟨(some 72), none, .pick (.tmp 68) (.tmp 71) (.val (.bool false))⟩,
      ⟨(some 73), none, .mov (.tmp 72)⟩,
      ⟨(some 74), some (73, true), .mov (.tmp 10)⟩,
      ⟨(some 75), some (73, true), .len false (.tmp 74)⟩,
      ⟨(some 76), some (73, true), .bin .eql .other (.tmp 75) (.val (.int .i64 0))⟩,
      ⟨(some 77), none, .pick (.tmp 73) (.tmp 76) (.val (.bool false))⟩,
      ⟨(some 78), none, .mov (.tmp 77)⟩,
      ⟨(some 79), some (78, true), .call (.val (.fn 6 [])) []⟩,
      ⟨(some 80), none, .pick (.tmp 78) (.tmp 79) (.val (.bool false))⟩,
      ⟨(some 2), none, .mov (.tmp 80)⟩])
    (.ret))
   (.skip)))
  (.seq (.seq (.ops [
    ⟨(some 81), none, .mov (.tmp 9)⟩,
    ⟨(some 82), none, .call (.val (.fn 8 [])) [(.tmp 81)]⟩,
    ⟨(some 83), none, .mov (.tmp 11)⟩,
    ⟨(some 84), none, .call (.val (.fn 8 [])) [(.tmp 83)]⟩,
    ⟨(some 85), none, .bin .add .other (.tmp 82) (.tmp 84)⟩,
    ⟨(some 86), none, .bin .neq .other (.tmp 85) (.val (.int .i64 0))⟩,
    ⟨(some 87), none, .mov (.tmp 86)⟩,
    ⟨(some 88), some (87, false), .mov (.tmp 10)⟩,
    ⟨(some 89), some (87, false), .len false (.tmp 88)⟩,
    ⟨(some 90), some (87, false), .mov (.tmp 0)⟩,
    ⟨(some 91), some (87, false), .bin .mul .other (.val (.int .i64 2)) (.tmp 90)⟩,
    ⟨(some 92), some (87, false), .bin .neq .other (.tmp 89) (.tmp 91)⟩,
    ⟨(some 93), none, .pick (.tmp 87) (.val (.bool true)) (.tmp 92)⟩])
  (.cond (.tmp 93)
   (.seq (.ops [
      ⟨(some 2), none, .mov (.val (.bool false))⟩])
    (.ret))
   (.skip)))
  (.seq (.seq (.ops [
    ⟨(some 12), none, .mov (.val (.int .i64 0))⟩])
  (.block 4 (.loop (.seq (.seq (.ops [
        ⟨(some 94), none, .mov (.tmp 12)⟩,
        ⟨(some 95), none, .mov (.tmp 0)⟩,
        ⟨(some 96), none, .bin .mul .other (.val (.int .i64 2)) (.tmp 95)⟩,
        ⟨(some 97), none, .bin .lss .other (.tmp 94) (.tmp 96)⟩])
      (.cond (.tmp 97)
       (.skip)
       (.exit 4)))
      (.seq (.block 5 (.seq (.ops [
          ⟨(some 100), none, .mov (.tmp 12)⟩,
          ⟨(some 13), none, .mov (.tmp 100)⟩])
        (.seq (.seq (.ops [
          ⟨(some 101), none, .mov (.tmp 12)⟩,
          ⟨(some 102), none, .mov (.tmp 0)⟩,
          ⟨(some 103), none, .bin .gtr .other (.tmp 101) (.tmp 102)⟩])
        (.cond (.tmp 103)
         (.ops [
            ⟨(some 104), none, .mov (.tmp 0)⟩,
            ⟨(some 105), none, .bin .mul .other (.val (.int .i64 2)) (.tmp 104)⟩,
            ⟨(some 106), none, .mov (.tmp 12)⟩,
            ⟨(some 107), none, .bin .sub .other (.tmp 105) (.tmp 106)⟩,
            ⟨(some 13), none, .mov (.tmp 107)⟩])
         (.skip)))
        (.seq (.ops [
          ⟨(some 108), none, .mov (.tmp 10)⟩,
          ⟨(some 109), none, .mov (.tmp 12)⟩,
          ⟨(some 110), none, .iaddr 1 (.tmp 108) (.tmp 109)⟩,
          ⟨(some 111), none, .load none (.tmp 110)⟩,
          ⟨(some 112), none, .mov (.tmp 13)⟩,
          ⟨(some 113), none, .bin .neq .other (.tmp 111) (.tmp 112)⟩])
        (.cond (.tmp 113)
         (.seq (.ops [
            ⟨(some 2), none, .mov (.val (.bool false))⟩])
          (.ret))
         (.skip))))))
      (.ops [
        ⟨(some 98), none, .mov (.tmp 12)⟩,
        ⟨(some 99), none, .bin .add .other (.tmp 98) (.val (.int .i64 1))⟩,
        ⟨(some 12), none, .mov (.tmp 99)⟩]))))))
  (.seq (.ops [
    ⟨(some 114), none, .call (.val (.fn 6 [])) []⟩,
    ⟨(some 2), none, .mov (.tmp 114)⟩])
  (.ret)))))))))))))
def e4 : FEnt := ⟨115, c4, [.tmp 2]⟩
theorem v4 : Valid Tryd.prog 4 e4 :=
  ⟨Tryd.f4, Tryd.f4.body.getD .skip, Tryd.func4, by kernel_rfl, by kernel_rfl, by kernel_rfl, by kernel_rfl, by kernel_rfl⟩

/-- jacquard/jacquardref10.Big -/
def c5 : FC :=
  .seq (.ops [
    ⟨(some 1), none, .box 26 (.tmp 0)⟩,
    ⟨(some 2), none, .mov (.val (.bool false))⟩])
  (.seq (.seq (.ops [
    ⟨(some 8), none, .faddr 0 (.tmp 1)⟩,
    ⟨(some 9), none, .load none (.tmp 8)⟩,
    ⟨(some 10), none, .len false (.tmp 9)⟩,
    ⟨(some 11), none, .bin .gtr .other (.tmp 10) (.val (.int .i64 30))⟩,
    ⟨(some 12), none, .mov (.tmp 11)⟩,
    ⟨(some 13), some (12, false), .faddr 1 (.tmp 1)⟩,
    ⟨(some 14), some (12, false), .load none (.tmp 13)⟩,
    ⟨(some 15), some (12, false), .len false (.tmp 14)⟩,
    ⟨(some 16), some (12, false), .bin .gtr .other (.tmp 15) (.val (.int .i64 100))⟩,
    ⟨(some 17), none, .pick (.tmp 12) (.val (.bool true)) (.tmp 16)⟩,
    ⟨(some 18), none, .mov (.tmp 17)⟩,
    ⟨(some 19), some (18, false), .faddr 2 (.tmp 1)⟩,
    ⟨(some 20), some (18, false), .load none (.tmp 19)⟩,
    ⟨(some 21), some (18, false), .len false (.tmp 20)⟩,
    ⟨(some 22), some (18, false), .bin .gtr .other (.tmp 21) (.val (.int .i64 50))⟩,
    ⟨(some 23), none, .pick (.tmp 18) (.val (.bool true)) (.tmp 22)⟩])
  (.cond (.tmp 23)
   (.seq (.ops [
      ⟨(some 2), none, .mov (.val (.bool true))⟩])
    (.ret))
   (.skip)))
  (.seq (.ops [
    ⟨(some 3), none, .mov (.val (.int .i64 0))⟩])
  (.seq (.seq (.ops [
    ⟨(some 4), none, .mov (.val (.int .i64 0))⟩])
  (.block 0 (.loop (.seq (.seq (.ops [
        ⟨(some 24), none, .mov (.tmp 4)⟩,
        ⟨(some 25), none, .faddr 1 (.tmp 1)⟩,
        ⟨(some 26), none, .load none (.tmp 25)⟩,
        ⟨(some 27), none, .len false (.tmp 26)⟩,
        ⟨(some 28), none, .bin .lss .other (.tmp 24) (.tmp 27)⟩])
      (.cond (.tmp 28)
       (.skip)
       (.exit 0)))
      (.seq (.block 1 (.seq (.ops [
          ⟨(some 31), none, .faddr 1 (.tmp 1)⟩,
          ⟨(some 32), none, .load none (.tmp 31)⟩,
          ⟨(some 33), none, .mov (.tmp 4)⟩,
          ⟨(some 34), none, .iaddr 1 (.tmp 32) (.tmp 33)⟩,
          ⟨(some 35), none, .load none (.tmp 34)⟩,
          ⟨(some 36), none, .len true (.tmp 35)⟩,
          ⟨(some 37), none, .bin .gtr .other (.tmp 36) (.val (.int .i64 2000))⟩])
        (.cond (.tmp 37)
         (.seq (.ops [
            ⟨(some 2), none, .mov (.val (.bool true))⟩])
          (.ret))
         (.skip))))
      (.ops [
        ⟨(some 29), none, .mov (.tmp 4)⟩,
        ⟨(some 30), none, .bin .add .other (.tmp 29) (.val (.int .i64 1))⟩,
        ⟨(some 4), none, .mov (.tmp 30)⟩]))))))
  (.seq (.seq (.ops [
    ⟨(some 5), none, .mov (.val (.int .i64 0))⟩])
  (.block 2 (.loop (.seq (.seq (.ops [
        ⟨(some 38), none, .mov (.tmp 5)⟩,
        ⟨(some 39), none, .faddr 2 (.tmp 1)⟩,
        ⟨(some 40), none, .load none (.tmp 39)⟩,
        ⟨(some 41), none, .len false (.tmp 40)⟩,
        ⟨(some 42), none, .bin .lss .other (.tmp 38) (.tmp 41)⟩])
      (.cond (.tmp 42)
       (.skip)
       (.exit 2)))
      (.seq (.block 3 (.seq (.ops [
          ⟨(some 45), none, .faddr 2 (.tmp 1)⟩,
          ⟨(some 46), none, .load none (.tmp 45)⟩,
          ⟨(some 47), none, .mov (.tmp 5)⟩,
          ⟨(some 48), none, .iaddr 1 (.tmp 46) (.tmp 47)⟩,
          ⟨(some 49), none, .load none (.tmp 48)⟩,
          ⟨(some 50), none, .len false (.tmp 49)⟩,
          ⟨(some 51), none, .bin .gtr .other (.tmp 50) (.val (.int .i64 100))⟩])
        (.cond (.tmp 51)
         (.seq (.ops [
            ⟨(some 2), none, .mov (.val (.bool true))⟩])
          (.ret))
         (.skip))))
      (.ops [
        ⟨(some 43), none, .mov (.tmp 5)⟩,
        ⟨(some 44), none, .bin .add .other (.tmp 43) (.val (.int .i64 1))⟩,
        ⟨(some 5), none, .mov (.tmp 44)⟩]))))))
  (.seq (.seq (.ops [
    ⟨(some 6), none, .mov (.val (.int .i64 0))⟩])
  (.block 4 (.loop (.seq (.seq (.ops [
        ⟨(some 52), none, .mov (.tmp 6)⟩,
        ⟨(some 53), none, .faddr 0 (.tmp 1)⟩,
        ⟨(some 54), none, .load none (.tmp 53)⟩,
        ⟨(some 55), none, .len false (.tmp 54)⟩,
        ⟨(some 56), none, .bin .lss .other (.tmp 52) (.tmp 55)⟩])
      (.cond (.tmp 56)
       (.skip)
       (.exit 4)))
      (.seq (.block 5 (.seq (.ops [
          ⟨(some 59), none, .faddr 0 (.tmp 1)⟩,
          ⟨(some 60), none, .load none (.tmp 59)⟩,
          ⟨(some 61), none, .mov (.tmp 6)⟩,
          ⟨(some 62), none, .iaddr 6 (.tmp 60) (.tmp 61)⟩,
          ⟨(some 63), none, .load (some 6) (.tmp 62)⟩,
          ⟨(some 7), none, .alloc 38 [(.int .i64 0), (.int .i64 0), .nils, .nils, .nils, .nils]⟩,
          ⟨none, none, .store 6 (.tmp 7) (.tmp 63)⟩])
        (.seq (.seq (.ops [
          ⟨(some 64), none, .faddr 4 (.tmp 7)⟩,
          ⟨(some 65), none, .load none (.tmp 64)⟩,
          ⟨(some 66), none, .len false (.tmp 65)⟩,
          ⟨(some 67), none, .bin .gtr .other (.tmp 66) (.val (.int .i64 500))⟩,
          ⟨(some 68), none, .mov (.tmp 67)⟩,
          ⟨(some 69), some (68, false), .faddr 2 (.tmp 7)⟩,
          ⟨(some 70), some (68, false), .load none (.tmp 69)⟩,
          ⟨(some 71), some (68, false), .len false (.tmp 70)⟩,
          ⟨(some 72), some (68, false), .bin .gtr .other (.tmp 71) (.val (.int .i64 100))⟩,
          ⟨(some 73), none, .pick (.tmp 68) (.val (.bool true)) (.tmp 72)⟩,
          ⟨(some 74), none, .mov (.tmp 73)⟩,
          ⟨(some 75), some (74, false), .faddr 3 (.tmp 7)⟩,
          ⟨(some 76), some (74, false), .load none (.tmp 75)⟩,
          ⟨(some 77), some (74, false), .len false (.tmp 76)⟩,
          ⟨(some 78), some (74, false), .bin .gtr .other (.tmp 77) (.val (.int .i64 100))⟩,
          ⟨(some 79), none, .pick (.tmp 74) (.val (.bool true)) (.tmp 78)⟩,
          ⟨(some 80), none, .mov (.tmp 79)⟩,
          ⟨(some 81), some (80, false), .faddr 5 (.tmp 7)⟩,
          ⟨(some 82), some (80, false), .load none (.tmp 81)⟩,
          ⟨(some 83), some (80, false), .len false (.tmp 82)⟩,
          ⟨(some 84), some (80, false), .bin .gtr .other (.tmp 83) (.val (.int .i64 50))⟩,
          ⟨(some 85), none, .pick (.tmp 80) (.val (.bool true)) (.tmp 84)⟩])
        (.cond (.tmp 85)
         (.seq (.ops [
            ⟨(some 2), none, .mov (.val (.bool true))⟩])
          (.ret))
         (.skip)))
        (.ops [
          ⟨(some 86), none, .mov (.tmp 3)⟩,
          ⟨(some 87), none, .faddr 4 (.tmp 7)⟩,
          ⟨(some 88), none, .load none (.tmp 87)⟩,
          ⟨(some 89), none, .len false (.tmp 88)⟩,
          ⟨(some 90), none, .bin .add .other (.tmp 86) (.tmp 89)⟩,
          ⟨(some 3), none, .mov (.tmp 90)⟩]))))
      (.ops [
        ⟨(some 57), none, .mov (.tmp 6)⟩,
        ⟨(some 58), none, .bin .add .other (.tmp 57) (.val (.int .i64 1))⟩,
        ⟨(some 6), none, .mov (.tmp 58)⟩]))))))
  (.seq (.ops [
    ⟨(some 91), none, .mov (.tmp 3)⟩,
    ⟨(some 92), none, .bin .gtr .other (.tmp 91) (.val (.int .i64 3000))⟩,
    ⟨(some 2), none, .mov (.tmp 92)⟩])
  (.ret)))))))
def e5 : FEnt := ⟨93, c5, [.tmp 2]⟩
theorem v5 : Valid Tryd.prog 5 e5 :=
  ⟨Tryd.f5, Tryd.f5.body.getD .skip, Tryd.func5, by kernel_rfl, by kernel_rfl, by kernel_rfl, by kernel_rfl, by kernel_rfl⟩

/-- jacquard/jacquardlaw11.live -/
def c6 : FC :=
  .seq (.ops [
    ⟨(some 0), none, .mov (.val (.bool false))⟩])
  (.seq (.ops [
    ⟨(some 1), none, .mov (.val (.fn 10 []))⟩])
  (.seq (.ops [
    ⟨(some 8), none, .mov (.tmp 1)⟩,
    ⟨(some 9), none, .build [(.int .i64 0), (.int .i64 0), (.int .i64 0)] [(0, 1, (.val (.int .i64 0))), (1, 1, (.val (.int .i64 1)))]⟩,
    ⟨(some 10), none, .build [(.int .i64 0), (.int .i64 0), (.int .i64 0)] [(0, 1, (.val (.int .i64 27)))]⟩,
    ⟨(some 11), none, .bslice 40 3 [(.int .i64 0), (.int .i64 0), (.int .i64 0), (.int .i64 0), (.int .i64 0), (.int .i64 0)] 2 [(0, 3, (.tmp 9)), (3, 3, (.tmp 10))]⟩,
    ⟨(some 12), none, .call (.tmp 8) [(.tmp 11)]⟩,
    ⟨(some 13), none, .call (.val (.fn 9 [])) [(.tmp 12), (.val (.int .i64 0))]⟩,
    ⟨(some 7), none, .mov (.tmp 13)⟩,
    ⟨(some 14), none, .extract (.tmp 7) 0⟩,
    ⟨(some 15), none, .extract (.tmp 7) 1⟩,
    ⟨(some 2), none, .mov (.tmp 14)⟩,
    ⟨(some 3), none, .mov (.tmp 15)⟩])
  (.seq (.ops [
    ⟨(some 17), none, .mov (.tmp 1)⟩,
    ⟨(some 18), none, .build [(.int .i64 0), (.int .i64 0), (.int .i64 0)] [(0, 1, (.val (.int .i64 27)))]⟩,
    ⟨(some 19), none, .bslice 40 3 [(.int .i64 0), (.int .i64 0), (.int .i64 0)] 1 [(0, 3, (.tmp 18))]⟩,
    ⟨(some 20), none, .call (.tmp 17) [(.tmp 19)]⟩,
    ⟨(some 21), none, .call (.val (.fn 7 [])) [(.tmp 20)]⟩,
    ⟨(some 16), none, .mov (.tmp 21)⟩,
    ⟨(some 22), none, .extract (.tmp 16) 0⟩,
    ⟨(some 23), none, .extract (.tmp 16) 1⟩,
    ⟨(some 24), none, .extract (.tmp 16) 2⟩,
    ⟨(some 4), none, .mov (.tmp 22)⟩,
    ⟨(some 5), none, .mov (.tmp 23)⟩,
    ⟨(some 6), none, .mov (.tmp 24)⟩])
  (.seq (.ops [
    ⟨(some 25), none, .mov (.tmp 3)⟩,
    ⟨(some 26), none, .call (.val (.fn 8 [])) [(.tmp 25)]⟩,
    ⟨(some 27), none, .bin .eql .other (.tmp 26) (.val (.int .i64 0))⟩,
    ⟨(some 28), none, .mov (.tmp 27)⟩,
    ⟨(some 29), some (28, true), .mov (.tmp 2)⟩,
    ⟨(some 30), some (28, true), .len false (.tmp 29)⟩,
    ⟨(some 31), some (28, true), .bin .eql .other (.tmp 30) (.val (.int .i64 2))⟩,
    ⟨(some 32), none, .pick (.tmp 28) (.tmp 31) (.val (.bool false))⟩,
    ⟨(some 33), none, .mov (.tmp 32)⟩,
    ⟨(some 34), some (33, true), .mov (.tmp 2)⟩,
    ⟨(some 35), some (33, true), .iaddr 1 (.tmp 34) (.val (.int .i64 0))⟩,
    ⟨(some 36), some (33, true), .load none (.tmp 35)⟩,
    ⟨(some 37), some (33, true), .bin .eql .other (.tmp 36) (.val (.int .i64 0))⟩,
    ⟨(some 38), none, .pick (.tmp 33) (.tmp 37) (.val (.bool false))⟩,
    ⟨(some 39), none, .mov (.tmp 38)⟩,
    ⟨(some 40), some (39, true), .mov (.tmp 2)⟩,
    ⟨(some 41), some (39, true), .iaddr 1 (.tmp 40) (.val (.int .i64 1))⟩,
    ⟨(some 42), some (39, true), .load none (.tmp 41)⟩,
    ⟨(some 43), some (39, true), .bin .eql .other (.tmp 42) (.val (.int .i64 1))⟩,
    ⟨(some 44), none, .pick (.tmp 39) (.tmp 43) (.val (.bool false))⟩,
    ⟨(some 45), none, .mov (.tmp 44)⟩,
    ⟨(some 46), some (45, true), .mov (.tmp 6)⟩,
    ⟨(some 47), some (45, true), .call (.val (.fn 8 [])) [(.tmp 46)]⟩,
    ⟨(some 48), some (45, true), .bin .eql .other (.tmp 47) (.val (.int .i64 6))⟩,
    ⟨(some 49), none, .pick (.tmp 45) (.tmp 48) (.val (.bool false))⟩,
    ⟨(some 0), none, .mov (.tmp 49)⟩])
  (.ret)))))
def e6 : FEnt := ⟨50, c6, [.tmp 0]⟩
theorem v6 : Valid Tryd.prog 6 e6 :=
  ⟨Tryd.f6, Tryd.f6.body.getD .skip, Tryd.func6, by kernel_rfl, by kernel_rfl, by kernel_rfl, by kernel_rfl, by kernel_rfl⟩

/-- jacquard/verify.Check -/
def c7 : FC :=
  .seq (.ops [
    ⟨(some 1), none, .box 26 (.tmp 0)⟩,
    ⟨(some 2), none, .mov (.val (.int .i64 0))⟩,
    ⟨(some 3), none, .mov (.val (.int .i64 0))⟩,
    ⟨(some 4), none, .mov (.val (.int .i64 0))⟩])
  (.seq (.seq (.ops [
    ⟨(some 18), none, .load (some 4) (.tmp 1)⟩,
    ⟨(some 19), none, .call (.val (.fn 11 [])) [(.tmp 18)]⟩,
    ⟨(some 5), none, .mov (.tmp 19)⟩])
  (.seq (.ops [
    ⟨(some 20), none, .mov (.tmp 5)⟩,
    ⟨(some 21), none, .bin .neq .other (.tmp 20) (.val (.int .i64 0))⟩])
  (.cond (.tmp 21)
   (.seq (.ops [
      ⟨(some 22), none, .mov (.tmp 5)⟩,
      ⟨(some 2), none, .mov (.val (.int .i64 0))⟩,
      ⟨(some 3), none, .mov (.val (.int .i64 0))⟩,
      ⟨(some 4), none, .mov (.tmp 22)⟩])
    (.ret))
   (.skip))))
  (.seq (.seq (.ops [
    ⟨(some 23), none, .faddr 0 (.tmp 1)⟩,
    ⟨(some 24), none, .load none (.tmp 23)⟩,
    ⟨(some 25), none, .len false (.tmp 24)⟩,
    ⟨(some 26), none, .mov (.val (.int .i64 0))⟩])
  (.block 0 (.loop (.seq (.ops [
        ⟨(some 27), none, .bin .lss .other (.tmp 26) (.tmp 25)⟩])
      (.seq (.cond (.tmp 27)
       (.skip)
       (.exit 0))
      (.seq (.block 1 (.seq (.ops [
          ⟨(some 28), none, .mov (.tmp 26)⟩,
          ⟨(some 29), none, .iaddr 6 (.tmp 24) (.tmp 26)⟩,
          ⟨(some 30), none, .load (some 6) (.tmp 29)⟩,
          ⟨(some 7), none, .alloc 38 [(.int .i64 0), (.int .i64 0), .nils, .nils, .nils, .nils]⟩,
          ⟨(some 6), none, .mov (.tmp 28)⟩,
          ⟨none, none, .store 6 (.tmp 7) (.tmp 30)⟩])
        (.seq (.ops [
          ⟨(some 31), none, .load (some 6) (.tmp 7)⟩,
          ⟨(some 32), none, .mov (.tmp 6)⟩,
          ⟨(some 33), none, .bin .eql .other (.tmp 32) (.val (.int .i64 0))⟩,
          ⟨(some 34), none, .call (.val (.fn 12 [])) [(.tmp 31), (.tmp 33)]⟩,
          ⟨(some 8), none, .mov (.tmp 34)⟩])
        (.seq (.ops [
          ⟨(some 35), none, .mov (.tmp 8)⟩,
          ⟨(some 36), none, .bin .neq .other (.tmp 35) (.val (.int .i64 0))⟩])
        (.cond (.tmp 36)
         (.seq (.ops [
            ⟨(some 37), none, .mov (.tmp 6)⟩,
            ⟨(some 38), none, .mov (.tmp 8)⟩,
            ⟨(some 2), none, .mov (.tmp 37)⟩,
            ⟨(some 3), none, .mov (.val (.int .i64 0))⟩,
            ⟨(some 4), none, .mov (.tmp 38)⟩])
          (.ret))
         (.skip))))))
      (.ops [
        ⟨(some 39), none, .bin .add .other (.tmp 26) (.val (.int .i64 1))⟩,
        ⟨(some 26), none, .mov (.tmp 39)⟩])))))))
  (.seq (.seq (.ops [
    ⟨(some 40), none, .faddr 0 (.tmp 1)⟩,
    ⟨(some 41), none, .load none (.tmp 40)⟩,
    ⟨(some 42), none, .len false (.tmp 41)⟩,
    ⟨(some 43), none, .mov (.val (.int .i64 0))⟩])
  (.block 2 (.loop (.seq (.ops [
        ⟨(some 44), none, .bin .lss .other (.tmp 43) (.tmp 42)⟩])
      (.seq (.cond (.tmp 44)
       (.skip)
       (.exit 2))
      (.seq (.block 3 (.seq (.ops [
          ⟨(some 45), none, .mov (.tmp 43)⟩,
          ⟨(some 46), none, .iaddr 6 (.tmp 41) (.tmp 43)⟩,
          ⟨(some 47), none, .load (some 6) (.tmp 46)⟩,
          ⟨(some 10), none, .alloc 38 [(.int .i64 0), (.int .i64 0), .nils, .nils, .nils, .nils]⟩,
          ⟨(some 9), none, .mov (.tmp 45)⟩,
          ⟨none, none, .store 6 (.tmp 10) (.tmp 47)⟩])
        (.seq (.seq (.ops [
          ⟨(some 48), none, .faddr 4 (.tmp 10)⟩,
          ⟨(some 49), none, .load none (.tmp 48)⟩,
          ⟨(some 50), none, .len false (.tmp 49)⟩,
          ⟨(some 51), none, .mov (.val (.int .i64 0))⟩])
        (.block 4 (.loop (.seq (.ops [
              ⟨(some 52), none, .bin .lss .other (.tmp 51) (.tmp 50)⟩])
            (.seq (.cond (.tmp 52)
             (.skip)
             (.exit 4))
            (.seq (.block 5 (.seq (.ops [
                ⟨(some 53), none, .mov (.tmp 51)⟩,
                ⟨(some 11), none, .mov (.tmp 53)⟩])
              (.seq (.ops [
                ⟨(some 54), none, .load (some 4) (.tmp 1)⟩,
                ⟨(some 55), none, .load (some 6) (.tmp 10)⟩,
                ⟨(some 56), none, .mov (.tmp 11)⟩,
                ⟨(some 57), none, .call (.val (.fn 13 [])) [(.tmp 54), (.tmp 55), (.tmp 56)]⟩,
                ⟨(some 12), none, .mov (.tmp 57)⟩])
              (.seq (.ops [
                ⟨(some 58), none, .mov (.tmp 12)⟩,
                ⟨(some 59), none, .bin .neq .other (.tmp 58) (.val (.int .i64 0))⟩])
              (.cond (.tmp 59)
               (.seq (.ops [
                  ⟨(some 60), none, .mov (.tmp 9)⟩,
                  ⟨(some 61), none, .mov (.tmp 11)⟩,
                  ⟨(some 62), none, .mov (.tmp 12)⟩,
                  ⟨(some 2), none, .mov (.tmp 60)⟩,
                  ⟨(some 3), none, .mov (.tmp 61)⟩,
                  ⟨(some 4), none, .mov (.tmp 62)⟩])
                (.ret))
               (.skip))))))
            (.ops [
              ⟨(some 63), none, .bin .add .other (.tmp 51) (.val (.int .i64 1))⟩,
              ⟨(some 51), none, .mov (.tmp 63)⟩])))))))
        (.seq (.ops [
          ⟨(some 64), none, .faddr 5 (.tmp 10)⟩,
          ⟨(some 65), none, .load none (.tmp 64)⟩,
          ⟨(some 66), none, .mkfn 15 [(.tmp 10)]⟩,
          ⟨(some 67), none, .call (.val (.fn 14 [])) [(.tmp 65), (.tmp 66)]⟩])
        (.cond (.tmp 67)
         (.seq (.draw (.ops [
            ⟨(some 68), none, .mov (.tmp 9)⟩,
            ⟨(some 69), none, .faddr 4 (.tmp 10)⟩,
            ⟨(some 70), none, .load none (.tmp 69)⟩,
            ⟨(some 71), none, .len false (.tmp 70)⟩,
            ⟨(some 2), none, .mov (.tmp 68)⟩,
            ⟨(some 3), none, .mov (.tmp 71)⟩,
            ⟨(some 4), none, .mov (.val (.int .i64 9))⟩] (.done)))
          (.ret))
         (.skip))))))
      (.ops [
        ⟨(some 72), none, .bin .add .other (.tmp 43) (.val (.int .i64 1))⟩,
        ⟨(some 43), none, .mov (.tmp 72)⟩])))))))
  (.seq (.seq (.ops [
    ⟨(some 73), none, .faddr 0 (.tmp 1)⟩,
    ⟨(some 74), none, .load none (.tmp 73)⟩,
    ⟨(some 75), none, .len false (.tmp 74)⟩,
    ⟨(some 76), none, .mov (.val (.int .i64 0))⟩])
  (.block 6 (.loop (.seq (.ops [
        ⟨(some 77), none, .bin .lss .other (.tmp 76) (.tmp 75)⟩])
      (.seq (.cond (.tmp 77)
       (.skip)
       (.exit 6))
      (.seq (.block 7 (.seq (.ops [
          ⟨(some 78), none, .mov (.tmp 76)⟩,
          ⟨(some 79), none, .iaddr 6 (.tmp 74) (.tmp 76)⟩,
          ⟨(some 80), none, .load (some 6) (.tmp 79)⟩,
          ⟨(some 14), none, .alloc 38 [(.int .i64 0), (.int .i64 0), .nils, .nils, .nils, .nils]⟩,
          ⟨(some 13), none, .mov (.tmp 78)⟩,
          ⟨none, none, .store 6 (.tmp 14) (.tmp 80)⟩])
        (.seq (.ops [
          ⟨(some 82), none, .load (some 4) (.tmp 1)⟩,
          ⟨(some 83), none, .load (some 6) (.tmp 14)⟩,
          ⟨(some 84), none, .call (.val (.fn 17 [])) [(.tmp 82), (.tmp 83)]⟩,
          ⟨(some 81), none, .mov (.tmp 84)⟩,
          ⟨(some 85), none, .extract (.tmp 81) 0⟩,
          ⟨(some 86), none, .extract (.tmp 81) 1⟩,
          ⟨(some 87), none, .extract (.tmp 81) 2⟩,
          ⟨(some 15), none, .mov (.tmp 85)⟩,
          ⟨(some 16), none, .mov (.tmp 86)⟩,
          ⟨(some 17), none, .mov (.tmp 87)⟩])
        (.seq (.ops [
          ⟨(some 88), none, .mov (.tmp 17)⟩,
          ⟨(some 89), none, .un .not (.tmp 88)⟩])
        (.cond (.tmp 89)
         (.seq (.ops [
            ⟨(some 90), none, .mov (.tmp 13)⟩,
            ⟨(some 91), none, .mov (.tmp 16)⟩,
            ⟨(some 2), none, .mov (.tmp 90)⟩,
            ⟨(some 3), none, .mov (.tmp 91)⟩,
            ⟨(some 4), none, .mov (.val (.int .i64 6))⟩])
          (.ret))
         (.skip))))))
      (.ops [
        ⟨(some 92), none, .bin .add .other (.tmp 76) (.val (.int .i64 1))⟩,
        ⟨(some 76), none, .mov (.tmp 92)⟩])))))))
  (.seq (.ops [
    ⟨(some 2), none, .mov (.val (.int .i64 0))⟩,
    ⟨(some 3), none, .mov (.val (.int .i64 0))⟩,
    ⟨(some 4), none, .mov (.val (.int .i64 0))⟩])
  (.ret))))))
def e7 : FEnt := ⟨93, c7, [.tmp 2, .tmp 3, .tmp 4]⟩
theorem v7 : Valid Tryd.prog 7 e7 :=
  ⟨Tryd.f7, Tryd.f7.body.getD .skip, Tryd.func7, by kernel_rfl, by kernel_rfl, by kernel_rfl, by kernel_rfl, by kernel_rfl⟩

/-- jacquard/jacquardlaw11.num -/
def c8 : FC :=
  .seq (.ops [
    ⟨(some 2), none, .mov (.val (.int .i64 0))⟩])
  (.seq (.ops [
    ⟨(some 3), none, .mov (.tmp 0)⟩,
    ⟨(some 2), none, .mov (.tmp 3)⟩])
  (.ret))
def e8 : FEnt := ⟨4, c8, [.tmp 2]⟩
theorem v8 : Valid Tryd.prog 8 e8 :=
  ⟨Tryd.f8, Tryd.f8.body.getD .skip, Tryd.func8, by kernel_rfl, by kernel_rfl, by kernel_rfl, by kernel_rfl, by kernel_rfl⟩

/-- jacquard/verify.Heights -/
def c9 : FC :=
  .seq (.ops [
    ⟨(some 2), none, .box 26 (.tmp 0)⟩,
    ⟨(some 4), none, .mov (.val .nils)⟩,
    ⟨(some 5), none, .mov (.val (.int .i64 0))⟩])
  (.seq (.seq (.ops [
    ⟨(some 13), none, .load (some 4) (.tmp 2)⟩,
    ⟨(some 14), none, .call (.val (.fn 7 [])) [(.tmp 13)]⟩,
    ⟨(some 12), none, .mov (.tmp 14)⟩,
    ⟨(some 15), none, .extract (.tmp 12) 0⟩,
    ⟨(some 16), none, .extract (.tmp 12) 1⟩,
    ⟨(some 17), none, .extract (.tmp 12) 2⟩,
    ⟨(some 6), none, .mov (.tmp 15)⟩,
    ⟨(some 7), none, .mov (.tmp 16)⟩,
    ⟨(some 8), none, .mov (.tmp 17)⟩])
  (.seq (.ops [
    ⟨(some 18), none, .mov (.tmp 8)⟩,
    ⟨(some 19), none, .bin .neq .other (.tmp 18) (.val (.int .i64 0))⟩])
  (.cond (.tmp 19)
   (.seq (.ops [
      ⟨(some 20), none, .mov (.tmp 8)⟩,
      ⟨(some 4), none, .mov (.val .nils)⟩,
      ⟨(some 5), none, .mov (.tmp 20)⟩])
    (.ret))
   (.skip))))
  (.seq (.seq (.ops [
    ⟨(some 21), none, .mov (.tmp 1)⟩,
    ⟨(some 22), none, .faddr 0 (.tmp 2)⟩,
    ⟨(some 23), none, .load none (.tmp 22)⟩,
    ⟨(some 24), none, .len false (.tmp 23)⟩,
    ⟨(some 25), none, .bin .sub .other (.tmp 24) (.val (.int .i64 1))⟩,
    ⟨(some 26), none, .call (.val (.fn 18 [])) [(.tmp 21), (.val (.int .i64 0)), (.tmp 25)]⟩,
    ⟨(some 27), none, .un .not (.tmp 26)⟩])
  (.cond (.tmp 27)
   (.seq (.ops [
      ⟨(some 4), none, .mov (.val .nils)⟩,
      ⟨(some 5), none, .mov (.val (.int .i64 1))⟩])
    (.ret))
   (.skip)))
  (.seq (.draw (.ops [
    ⟨(some 29), none, .load (some 4) (.tmp 2)⟩,
    ⟨(some 30), none, .faddr 0 (.tmp 2)⟩,
    ⟨(some 31), none, .load none (.tmp 30)⟩,
    ⟨(some 32), none, .mov (.tmp 1)⟩,
    ⟨(some 33), none, .iaddr 6 (.tmp 31) (.tmp 32)⟩,
    ⟨(some 34), none, .load (some 6) (.tmp 33)⟩,
    ⟨(some 35), none, .call (.val (.fn 17 [])) [(.tmp 29), (.tmp 34)]⟩,
    ⟨(some 28), none, .mov (.tmp 35)⟩,
    ⟨(some 36), none, .extract (.tmp 28) 0⟩,
    ⟨(some 37), none, .extract (.tmp 28) 1⟩,
    ⟨(some 38), none, .extract (.tmp 28) 2⟩,
    ⟨(some 9), none, .mov (.tmp 36)⟩,
    ⟨(some 10), none, .mov (.tmp 37)⟩,
    ⟨(some 11), none, .mov (.tmp 38)⟩] (.done)))
  (.seq (.ops [
    ⟨(some 39), none, .mov (.tmp 9)⟩,
    ⟨(some 4), none, .mov (.tmp 39)⟩,
    ⟨(some 5), none, .mov (.val (.int .i64 0))⟩])
  (.ret)))))
def e9 : FEnt := ⟨40, c9, [.tmp 4, .tmp 5]⟩
theorem v9 : Valid Tryd.prog 9 e9 :=
  ⟨Tryd.f9, Tryd.f9.body.getD .skip, Tryd.func9, by kernel_rfl, by kernel_rfl, by kernel_rfl, by kernel_rfl, by kernel_rfl⟩

/-- jacquard/jacquardlaw11.live$1 -/
def c10 : FC :=
  .seq (.ops [
    ⟨(some 2), none, .alloc 26 [.nils, .nils, .nils, (.int .i64 0)]⟩])
  (.seq (.ops [
    ⟨(some 3), none, .mov (.tmp 0)⟩,
    ⟨(some 4), none, .build [(.int .i64 0), (.int .i64 0), .nils, .nils, .nils, .nils] [(4, 1, (.tmp 3))]⟩,
    ⟨(some 5), none, .bslice 38 6 [(.int .i64 0), (.int .i64 0), .nils, .nils, .nils, .nils] 1 [(0, 6, (.tmp 4))]⟩,
    ⟨(some 6), none, .build [.nils, .nils, .nils, (.int .i64 0)] [(0, 1, (.tmp 5))]⟩,
    ⟨none, none, .store 4 (.tmp 2) (.tmp 6)⟩])
  (.ret))
def e10 : FEnt := ⟨7, c10, [.cell 2 (some 4)]⟩
theorem v10 : Valid Tryd.prog 10 e10 :=
  ⟨Tryd.f10, Tryd.f10.body.getD .skip, Tryd.func10, by kernel_rfl, by kernel_rfl, by kernel_rfl, by kernel_rfl, by kernel_rfl⟩

/-- jacquard/verify.whole -/
def c11 : FC :=
  .seq (.ops [
    ⟨(some 1), none, .box 26 (.tmp 0)⟩,
    ⟨(some 2), none, .mov (.val (.int .i64 0))⟩])
  (.seq (.seq (.ops [
    ⟨(some 7), none, .faddr 0 (.tmp 1)⟩,
    ⟨(some 8), none, .load none (.tmp 7)⟩,
    ⟨(some 9), none, .len false (.tmp 8)⟩,
    ⟨(some 10), none, .call (.val (.fn 18 [])) [(.tmp 9), (.val (.int .i64 1)), (.val (.int .i64 1024))]⟩,
    ⟨(some 11), none, .un .not (.tmp 10)⟩,
    ⟨(some 12), none, .mov (.tmp 11)⟩,
    ⟨(some 13), some (12, false), .faddr 3 (.tmp 1)⟩,
    ⟨(some 14), some (12, false), .load none (.tmp 13)⟩,
    ⟨(some 15), some (12, false), .call (.val (.fn 18 [])) [(.tmp 14), (.val (.int .i64 0)), (.val (.int .i64 1024))]⟩,
    ⟨(some 16), some (12, false), .un .not (.tmp 15)⟩,
    ⟨(some 17), none, .pick (.tmp 12) (.val (.bool true)) (.tmp 16)⟩])
  (.cond (.tmp 17)
   (.seq (.ops [
      ⟨(some 2), none, .mov (.val (.int .i64 3))⟩])
    (.ret))
   (.skip)))
  (.seq (.seq (.ops [
    ⟨(some 18), none, .faddr 2 (.tmp 1)⟩,
    ⟨(some 19), none, .load none (.tmp 18)⟩,
    ⟨(some 20), none, .len false (.tmp 19)⟩,
    ⟨(some 21), none, .mov (.val (.int .i64 0))⟩])
  (.block 0 (.loop (.seq (.ops [
        ⟨(some 22), none, .bin .lss .other (.tmp 21) (.tmp 20)⟩])
      (.seq (.cond (.tmp 22)
       (.skip)
       (.exit 0))
      (.seq (.block 1 (.seq (.ops [
          ⟨(some 23), none, .iaddr 1 (.tmp 19) (.tmp 21)⟩,
          ⟨(some 24), none, .load none (.tmp 23)⟩,
          ⟨(some 4), none, .mov (.tmp 24)⟩])
        (.seq (.seq (.ops [
          ⟨(some 25), none, .mov (.tmp 4)⟩,
          ⟨(some 26), none, .len false (.tmp 25)⟩,
          ⟨(some 27), none, .bin .gtr .other (.tmp 26) (.val (.int .i64 255))⟩])
        (.cond (.tmp 27)
         (.seq (.ops [
            ⟨(some 2), none, .mov (.val (.int .i64 1))⟩])
          (.ret))
         (.skip)))
        (.seq (.ops [
          ⟨(some 28), none, .mov (.tmp 4)⟩,
          ⟨(some 29), none, .len false (.tmp 28)⟩,
          ⟨(some 30), none, .mov (.val (.int .i64 0))⟩])
        (.block 2 (.loop (.seq (.ops [
              ⟨(some 31), none, .bin .lss .other (.tmp 30) (.tmp 29)⟩])
            (.seq (.cond (.tmp 31)
             (.skip)
             (.exit 2))
            (.seq (.block 3 (.seq (.ops [
                ⟨(some 32), none, .mov (.tmp 30)⟩,
                ⟨(some 33), none, .iaddr 1 (.tmp 28) (.tmp 30)⟩,
                ⟨(some 34), none, .load none (.tmp 33)⟩,
                ⟨(some 6), none, .alloc 3 [(.int .i64 0)]⟩,
                ⟨(some 5), none, .mov (.tmp 32)⟩,
                ⟨none, none, .store 1 (.tmp 6) (.tmp 34)⟩])
              (.seq (.ops [
                ⟨(some 35), none, .load none (.tmp 6)⟩,
                ⟨(some 36), none, .faddr 1 (.tmp 1)⟩,
                ⟨(some 37), none, .load none (.tmp 36)⟩,
                ⟨(some 38), none, .len false (.tmp 37)⟩,
                ⟨(some 39), none, .bin .sub .other (.tmp 38) (.val (.int .i64 1))⟩,
                ⟨(some 40), none, .call (.val (.fn 18 [])) [(.tmp 35), (.val (.int .i64 0)), (.tmp 39)]⟩,
                ⟨(some 41), none, .un .not (.tmp 40)⟩,
                ⟨(some 42), none, .mov (.tmp 41)⟩,
                ⟨(some 43), some (42, false), .mov (.tmp 4)⟩,
                ⟨(some 44), some (42, false), .mov (.tmp 5)⟩,
                ⟨(some 45), some (42, false), .slice 3 1 (.tmp 43) none (some (.tmp 44)) none⟩,
                ⟨(some 46), some (42, false), .mkfn 20 [(.tmp 1), (.tmp 6)]⟩,
                ⟨(some 47), some (42, false), .call (.val (.fn 19 [])) [(.tmp 45), (.tmp 46)]⟩,
                ⟨(some 48), none, .pick (.tmp 42) (.val (.bool true)) (.tmp 47)⟩])
              (.cond (.tmp 48)
               (.seq (.ops [
                  ⟨(some 2), none, .mov (.val (.int .i64 1))⟩])
                (.ret))
               (.skip)))))
            (.ops [
              ⟨(some 49), none, .bin .add .other (.tmp 30) (.val (.int .i64 1))⟩,
              ⟨(some 30), none, .mov (.tmp 49)⟩]))))))))))
      (.ops [
        ⟨(some 50), none, .bin .add .other (.tmp 21) (.val (.int .i64 1))⟩,
        ⟨(some 21), none, .mov (.tmp 50)⟩])))))))
  (.seq (.ops [
    ⟨(some 2), none, .mov (.val (.int .i64 0))⟩])
  (.ret))))
def e11 : FEnt := ⟨51, c11, [.tmp 2]⟩
theorem v11 : Valid Tryd.prog 11 e11 :=
  ⟨Tryd.f11, Tryd.f11.body.getD .skip, Tryd.func11, by kernel_rfl, by kernel_rfl, by kernel_rfl, by kernel_rfl, by kernel_rfl⟩

/-- jacquard/verify.frame -/
def c12 : FC :=
  .seq (.ops [
    ⟨(some 2), none, .box 38 (.tmp 0)⟩,
    ⟨(some 4), none, .mov (.val (.int .i64 0))⟩])
  (.seq (.block 0 (.seq (.seq (.ops [
      ⟨(some 9), none, .faddr 0 (.tmp 2)⟩,
      ⟨(some 10), none, .load none (.tmp 9)⟩,
      ⟨(some 11), none, .call (.val (.fn 18 [])) [(.tmp 10), (.val (.int .i64 0)), (.val (.int .i64 16))]⟩,
      ⟨(some 12), none, .un .not (.tmp 11)⟩,
      ⟨(some 8), none, .mov (.tmp 12)⟩])
    (.cond (.tmp 8)
     (.skip)
     (.seq (.ops [
        ⟨(some 13), none, .faddr 1 (.tmp 2)⟩,
        ⟨(some 14), none, .load none (.tmp 13)⟩,
        ⟨(some 15), none, .faddr 0 (.tmp 2)⟩,
        ⟨(some 16), none, .load none (.tmp 15)⟩,
        ⟨(some 17), none, .call (.val (.fn 18 [])) [(.tmp 14), (.tmp 16), (.val (.int .i64 256))]⟩,
        ⟨(some 18), none, .un .not (.tmp 17)⟩,
        ⟨(some 8), none, .mov (.tmp 18)⟩])
      (.cond (.tmp 8)
       (.skip)
       (.seq (.ops [
          ⟨(some 19), none, .faddr 3 (.tmp 2)⟩,
          ⟨(some 20), none, .load none (.tmp 19)⟩,
          ⟨(some 21), none, .len false (.tmp 20)⟩,
          ⟨(some 22), none, .bin .gtr .other (.tmp 21) (.val (.int .i64 256))⟩,
          ⟨(some 8), none, .mov (.tmp 22)⟩])
        (.cond (.tmp 8)
         (.skip)
         (.ops [
            ⟨(some 23), none, .faddr 4 (.tmp 2)⟩,
            ⟨(some 24), none, .load none (.tmp 23)⟩,
            ⟨(some 25), none, .len false (.tmp 24)⟩,
            ⟨(some 26), none, .call (.val (.fn 18 [])) [(.tmp 25), (.val (.int .i64 1)), (.val (.int .i64 65536))]⟩,
            ⟨(some 27), none, .un .not (.tmp 26)⟩,
            ⟨(some 8), none, .mov (.tmp 27)⟩])))))))
    (.cond (.tmp 8)
     (.seq (.ops [
        ⟨(some 4), none, .mov (.val (.int .i64 3))⟩])
      (.ret))
     (.seq (.ops [
        ⟨(some 29), none, .mov (.tmp 1)⟩,
        ⟨(some 30), none, .mov (.tmp 29)⟩,
        ⟨(some 31), some (30, true), .faddr 0 (.tmp 2)⟩,
        ⟨(some 32), some (30, true), .load none (.tmp 31)⟩,
        ⟨(some 33), some (30, true), .bin .gtr .other (.tmp 32) (.val (.int .i64 0))⟩,
        ⟨(some 34), some (30, true), .mov (.tmp 33)⟩,
        ⟨(some 35), some (34, false), .faddr 3 (.tmp 2)⟩,
        ⟨(some 36), some (34, false), .load none (.tmp 35)⟩,
        ⟨(some 37), some (34, false), .len false (.tmp 36)⟩,
        ⟨(some 38), some (34, false), .bin .gtr .other (.tmp 37) (.val (.int .i64 0))⟩,
        ⟨(some 39), some (30, true), .pick (.tmp 34) (.val (.bool true)) (.tmp 38)⟩,
        ⟨(some 40), none, .pick (.tmp 30) (.tmp 39) (.val (.bool false))⟩,
        ⟨(some 28), none, .mov (.tmp 40)⟩])
      (.cond (.tmp 28)
       (.seq (.ops [
          ⟨(some 4), none, .mov (.val (.int .i64 1))⟩])
        (.ret))
       (.skip))))))
  (.seq (.ops [
    ⟨(some 5), none, .mov (.val (.int .i64 (-1)))⟩])
  (.seq (.seq (.ops [
    ⟨(some 41), none, .faddr 2 (.tmp 2)⟩,
    ⟨(some 42), none, .load none (.tmp 41)⟩,
    ⟨(some 43), none, .len false (.tmp 42)⟩,
    ⟨(some 44), none, .mov (.val (.int .i64 0))⟩])
  (.block 1 (.loop (.seq (.ops [
        ⟨(some 45), none, .bin .lss .other (.tmp 44) (.tmp 43)⟩])
      (.seq (.cond (.tmp 45)
       (.skip)
       (.exit 1))
      (.seq (.block 2 (.seq (.ops [
          ⟨(some 46), none, .iaddr 1 (.tmp 42) (.tmp 44)⟩,
          ⟨(some 47), none, .load none (.tmp 46)⟩,
          ⟨(some 7), none, .mov (.tmp 47)⟩])
        (.seq (.seq (.ops [
          ⟨(some 48), none, .mov (.tmp 7)⟩,
          ⟨(some 49), none, .mov (.tmp 5)⟩,
          ⟨(some 50), none, .bin .leq .other (.tmp 48) (.tmp 49)⟩,
          ⟨(some 51), none, .mov (.tmp 50)⟩,
          ⟨(some 52), some (51, false), .mov (.tmp 7)⟩,
          ⟨(some 53), some (51, false), .faddr 0 (.tmp 2)⟩,
          ⟨(some 54), some (51, false), .load none (.tmp 53)⟩,
          ⟨(some 55), some (51, false), .bin .geq .other (.tmp 52) (.tmp 54)⟩,
          ⟨(some 56), none, .pick (.tmp 51) (.val (.bool true)) (.tmp 55)⟩])
        (.cond (.tmp 56)
         (.seq (.ops [
            ⟨(some 4), none, .mov (.val (.int .i64 1))⟩])
          (.ret))
         (.skip)))
        (.ops [
          ⟨(some 57), none, .mov (.tmp 7)⟩,
          ⟨(some 5), none, .mov (.tmp 57)⟩]))))
      (.ops [
        ⟨(some 58), none, .bin .add .other (.tmp 44) (.val (.int .i64 1))⟩,
        ⟨(some 44), none, .mov (.tmp 58)⟩])))))))
  (.seq (.seq (.ops [
    ⟨(some 59), none, .faddr 3 (.tmp 2)⟩,
    ⟨(some 60), none, .load none (.tmp 59)⟩,
    ⟨(some 61), none, .call (.val (.fn 21 [])) [(.tmp 60), (.val (.fn 22 []))]⟩])
  (.cond (.tmp 61)
   (.seq (.ops [
      ⟨(some 4), none, .mov (.val (.int .i64 1))⟩])
    (.ret))
   (.skip)))
  (.seq (.ops [
    ⟨(some 4), none, .mov (.val (.int .i64 0))⟩])
  (.ret))))))
def e12 : FEnt := ⟨62, c12, [.tmp 4]⟩
theorem v12 : Valid Tryd.prog 12 e12 :=
  ⟨Tryd.f12, Tryd.f12.body.getD .skip, Tryd.func12, by kernel_rfl, by kernel_rfl, by kernel_rfl, by kernel_rfl, by kernel_rfl⟩

/-- jacquard/verify.instr -/
def c13 : FC :=
  .seq (.ops [
    ⟨(some 3), none, .box 26 (.tmp 0)⟩,
    ⟨(some 4), none, .box 38 (.tmp 1)⟩,
    ⟨(some 6), none, .mov (.val (.int .i64 0))⟩])
  (.seq (.ops [
    ⟨(some 10), none, .faddr 4 (.tmp 4)⟩,
    ⟨(some 11), none, .load none (.tmp 10)⟩,
    ⟨(some 12), none, .mov (.tmp 2)⟩,
    ⟨(some 13), none, .iaddr 3 (.tmp 11) (.tmp 12)⟩,
    ⟨(some 14), none, .load (some 3) (.tmp 13)⟩,
    ⟨(some 7), none, .alloc 40 [(.int .i64 0), (.int .i64 0), (.int .i64 0)]⟩,
    ⟨none, none, .store 3 (.tmp 7) (.tmp 14)⟩])
  (.seq (.ops [
    ⟨(some 8), none, .mov (.val (.int .i64 0))⟩,
    ⟨(some 9), none, .mov (.val (.int .i64 0))⟩])
  (.seq (.seq (.ops [
    ⟨(some 15), none, .faddr 0 (.tmp 7)⟩,
    ⟨(some 16), none, .load none (.tmp 15)⟩])
  (.block 0 (.seq (.ops [
      ⟨(some 22), none, .bin .eql .other (.tmp 16) (.val (.int .i64 0))⟩,
      ⟨(some 21), none, .mov (.tmp 22)⟩])
    (.cond (.tmp 21)
     (.ops [
        ⟨(some 8), none, .mov (.val (.int .i64 (-2305843009213693952)))⟩,
        ⟨(some 9), none, .mov (.val (.int .i64 2305843009213693951))⟩])
     (.seq (.ops [
        ⟨(some 24), none, .bin .eql .other (.tmp 16) (.val (.int .i64 1))⟩,
        ⟨(some 23), none, .mov (.tmp 24)⟩])
      (.cond (.tmp 23)
       (.ops [
          ⟨(some 9), none, .mov (.val (.int .i64 2))⟩])
       (.seq (.seq (.ops [
          ⟨(some 26), none, .bin .eql .other (.tmp 16) (.val (.int .i64 2))⟩,
          ⟨(some 25), none, .mov (.tmp 26)⟩])
        (.cond (.tmp 25)
         (.skip)
         (.seq (.ops [
            ⟨(some 27), none, .bin .eql .other (.tmp 16) (.val (.int .i64 31))⟩,
            ⟨(some 25), none, .mov (.tmp 27)⟩])
          (.cond (.tmp 25)
           (.skip)
           (.ops [
              ⟨(some 28), none, .bin .eql .other (.tmp 16) (.val (.int .i64 32))⟩,
              ⟨(some 25), none, .mov (.tmp 28)⟩])))))
        (.cond (.tmp 25)
         (.ops [
            ⟨(some 29), none, .faddr 1 (.tmp 3)⟩,
            ⟨(some 30), none, .load none (.tmp 29)⟩,
            ⟨(some 31), none, .len false (.tmp 30)⟩,
            ⟨(some 32), none, .bin .sub .other (.tmp 31) (.val (.int .i64 1))⟩,
            ⟨(some 9), none, .mov (.tmp 32)⟩])
         (.seq (.ops [
            ⟨(some 34), none, .bin .eql .other (.tmp 16) (.val (.int .i64 3))⟩,
            ⟨(some 33), none, .mov (.tmp 34)⟩])
          (.cond (.tmp 33)
           (.ops [
              ⟨(some 9), none, .mov (.val (.int .i64 29))⟩])
           (.seq (.seq (.ops [
              ⟨(some 36), none, .bin .eql .other (.tmp 16) (.val (.int .i64 5))⟩,
              ⟨(some 35), none, .mov (.tmp 36)⟩])
            (.cond (.tmp 35)
             (.skip)
             (.seq (.ops [
                ⟨(some 37), none, .bin .eql .other (.tmp 16) (.val (.int .i64 6))⟩,
                ⟨(some 35), none, .mov (.tmp 37)⟩])
              (.cond (.tmp 35)
               (.skip)
               (.seq (.ops [
                  ⟨(some 38), none, .bin .eql .other (.tmp 16) (.val (.int .i64 7))⟩,
                  ⟨(some 35), none, .mov (.tmp 38)⟩])
                (.cond (.tmp 35)
                 (.skip)
                 (.seq (.ops [
                    ⟨(some 39), none, .bin .eql .other (.tmp 16) (.val (.int .i64 8))⟩,
                    ⟨(some 35), none, .mov (.tmp 39)⟩])
                  (.cond (.tmp 35)
                   (.skip)
                   (.ops [
                      ⟨(some 40), none, .bin .eql .other (.tmp 16) (.val (.int .i64 9))⟩,
                      ⟨(some 35), none, .mov (.tmp 40)⟩])))))))))
            (.cond (.tmp 35)
             (.ops [
                ⟨(some 41), none, .faddr 1 (.tmp 4)⟩,
                ⟨(some 42), none, .load none (.tmp 41)⟩,
                ⟨(some 43), none, .bin .sub .other (.tmp 42) (.val (.int .i64 1))⟩,
                ⟨(some 9), none, .mov (.tmp 43)⟩])
             (.seq (.seq (.ops [
                ⟨(some 45), none, .bin .eql .other (.tmp 16) (.val (.int .i64 10))⟩,
                ⟨(some 44), none, .mov (.tmp 45)⟩])
              (.cond (.tmp 44)
               (.skip)
               (.ops [
                  ⟨(some 46), none, .bin .eql .other (.tmp 16) (.val (.int .i64 11))⟩,
                  ⟨(some 44), none, .mov (.tmp 46)⟩])))
              (.cond (.tmp 44)
               (.ops [
                  ⟨(some 47), none, .faddr 3 (.tmp 4)⟩,
                  ⟨(some 48), none, .load none (.tmp 47)⟩,
                  ⟨(some 49), none, .len false (.tmp 48)⟩,
                  ⟨(some 50), none, .bin .sub .other (.tmp 49) (.val (.int .i64 1))⟩,
                  ⟨(some 9), none, .mov (.tmp 50)⟩])
               (.seq (.seq (.ops [
                  ⟨(some 52), none, .bin .eql .other (.tmp 16) (.val (.int .i64 12))⟩,
                  ⟨(some 51), none, .mov (.tmp 52)⟩])
                (.cond (.tmp 51)
                 (.skip)
                 (.ops [
                    ⟨(some 53), none, .bin .eql .other (.tmp 16) (.val (.int .i64 13))⟩,
                    ⟨(some 51), none, .mov (.tmp 53)⟩])))
                (.cond (.tmp 51)
                 (.ops [
                    ⟨(some 54), none, .faddr 3 (.tmp 3)⟩,
                    ⟨(some 55), none, .load none (.tmp 54)⟩,
                    ⟨(some 56), none, .bin .sub .other (.tmp 55) (.val (.int .i64 1))⟩,
                    ⟨(some 9), none, .mov (.tmp 56)⟩])
                 (.seq (.seq (.ops [
                    ⟨(some 58), none, .bin .eql .other (.tmp 16) (.val (.int .i64 14))⟩,
                    ⟨(some 57), none, .mov (.tmp 58)⟩])
                  (.cond (.tmp 57)
                   (.skip)
                   (.seq (.ops [
                      ⟨(some 59), none, .bin .eql .other (.tmp 16) (.val (.int .i64 25))⟩,
                      ⟨(some 57), none, .mov (.tmp 59)⟩])
                    (.cond (.tmp 57)
                     (.skip)
                     (.ops [
                        ⟨(some 60), none, .bin .eql .other (.tmp 16) (.val (.int .i64 26))⟩,
                        ⟨(some 57), none, .mov (.tmp 60)⟩])))))
                  (.cond (.tmp 57)
                   (.ops [
                      ⟨(some 9), none, .mov (.val (.int .i64 255))⟩])
                   (.seq (.ops [
                      ⟨(some 62), none, .bin .eql .other (.tmp 16) (.val (.int .i64 15))⟩,
                      ⟨(some 61), none, .mov (.tmp 62)⟩])
                    (.cond (.tmp 61)
                     (.ops [
                        ⟨(some 63), none, .faddr 2 (.tmp 3)⟩,
                        ⟨(some 64), none, .load none (.tmp 63)⟩,
                        ⟨(some 65), none, .len false (.tmp 64)⟩,
                        ⟨(some 66), none, .bin .sub .other (.tmp 65) (.val (.int .i64 1))⟩,
                        ⟨(some 9), none, .mov (.tmp 66)⟩])
                     (.seq (.ops [
                        ⟨(some 68), none, .bin .eql .other (.tmp 16) (.val (.int .i64 16))⟩,
                        ⟨(some 67), none, .mov (.tmp 68)⟩])
                      (.cond (.tmp 67)
                       (.seq (.ops [
                          ⟨(some 9), none, .mov (.val (.int .i64 1024))⟩])
                        (.seq (.ops [
                          ⟨(some 69), none, .load (some 4) (.tmp 3)⟩,
                          ⟨(some 70), none, .load (some 6) (.tmp 4)⟩,
                          ⟨(some 71), none, .faddr 1 (.tmp 7)⟩,
                          ⟨(some 72), none, .load none (.tmp 71)⟩,
                          ⟨(some 73), none, .call (.val (.fn 23 [])) [(.tmp 69), (.tmp 70), (.tmp 72)]⟩,
                          ⟨(some 74), none, .un .not (.tmp 73)⟩])
                        (.cond (.tmp 74)
                         (.seq (.ops [
                            ⟨(some 6), none, .mov (.val (.int .i64 9))⟩])
                          (.ret))
                         (.skip))))
                       (.seq (.ops [
                          ⟨(some 76), none, .bin .eql .other (.tmp 16) (.val (.int .i64 17))⟩,
                          ⟨(some 75), none, .mov (.tmp 76)⟩])
                        (.cond (.tmp 75)
                         (.ops [
                            ⟨(some 9), none, .mov (.val (.int .i64 10))⟩])
                         (.seq (.seq (.ops [
                            ⟨(some 78), none, .bin .eql .other (.tmp 16) (.val (.int .i64 20))⟩,
                            ⟨(some 77), none, .mov (.tmp 78)⟩])
                          (.cond (.tmp 77)
                           (.skip)
                           (.seq (.ops [
                              ⟨(some 79), none, .bin .eql .other (.tmp 16) (.val (.int .i64 21))⟩,
                              ⟨(some 77), none, .mov (.tmp 79)⟩])
                            (.cond (.tmp 77)
                             (.skip)
                             (.seq (.ops [
                                ⟨(some 80), none, .bin .eql .other (.tmp 16) (.val (.int .i64 22))⟩,
                                ⟨(some 77), none, .mov (.tmp 80)⟩])
                              (.cond (.tmp 77)
                               (.skip)
                               (.ops [
                                  ⟨(some 81), none, .bin .eql .other (.tmp 16) (.val (.int .i64 23))⟩,
                                  ⟨(some 77), none, .mov (.tmp 81)⟩])))))))
                          (.cond (.tmp 77)
                           (.draw (.ops [
                              ⟨(some 82), none, .mov (.tmp 2)⟩,
                              ⟨(some 83), none, .bin .add .other (.tmp 82) (.val (.int .i64 1))⟩,
                              ⟨(some 84), none, .faddr 4 (.tmp 4)⟩,
                              ⟨(some 85), none, .load none (.tmp 84)⟩,
                              ⟨(some 86), none, .len false (.tmp 85)⟩,
                              ⟨(some 87), none, .bin .sub .other (.tmp 86) (.val (.int .i64 1))⟩,
                              ⟨(some 8), none, .mov (.tmp 83)⟩,
                              ⟨(some 9), none, .mov (.tmp 87)⟩] (.done)))
                           (.seq (.ops [
                              ⟨(some 89), none, .bin .eql .other (.tmp 16) (.val (.int .i64 24))⟩,
                              ⟨(some 88), none, .mov (.tmp 89)⟩])
                            (.cond (.tmp 88)
                             (.ops [
                                ⟨(some 90), none, .mov (.tmp 2)⟩,
                                ⟨(some 9), none, .mov (.tmp 90)⟩])
                             (.seq (.ops [
                                ⟨(some 17), none, .faddr 0 (.tmp 7)⟩,
                                ⟨(some 18), none, .load none (.tmp 17)⟩,
                                ⟨(some 19), none, .call (.val (.fn 24 [])) [(.tmp 18)]⟩,
                                ⟨(some 20), none, .bin .eql .other (.tmp 19) (.val (.str ⟨#[]⟩))⟩])
                              (.cond (.tmp 20)
                               (.seq (.ops [
                                  ⟨(some 6), none, .mov (.val (.int .i64 8))⟩])
                                (.ret))
                               (.skip)))))))))))))))))))))))))))))))
  (.seq (.seq (.ops [
    ⟨(some 91), none, .faddr 2 (.tmp 7)⟩,
    ⟨(some 92), none, .load none (.tmp 91)⟩,
    ⟨(some 93), none, .bin .neq .other (.tmp 92) (.val (.int .i64 0))⟩,
    ⟨(some 94), none, .mov (.tmp 93)⟩,
    ⟨(some 95), some (94, false), .faddr 1 (.tmp 7)⟩,
    ⟨(some 96), some (94, false), .load none (.tmp 95)⟩,
    ⟨(some 97), some (94, false), .mov (.tmp 8)⟩,
    ⟨(some 98), some (94, false), .mov (.tmp 9)⟩,
    ⟨(some 99), some (94, false), .call (.val (.fn 18 [])) [(.tmp 96), (.tmp 97), (.tmp 98)]⟩,
    ⟨(some 100), some (94, false), .un .not (.tmp 99)⟩,
    ⟨(some 101), none, .pick (.tmp 94) (.val (.bool true)) (.tmp 100)⟩])
  (.cond (.tmp 101)
   (.seq (.ops [
      ⟨(some 6), none, .mov (.val (.int .i64 9))⟩])
    (.ret))
   (.skip)))
  (.seq (.ops [
    ⟨(some 6), none, .mov (.val (.int .i64 0))⟩])
  (.ret))))))
def e13 : FEnt := ⟨102, c13, [.tmp 6]⟩
theorem v13 : Valid Tryd.prog 13 e13 :=
  ⟨Tryd.f13, Tryd.f13.body.getD .skip, Tryd.func13, by kernel_rfl, by kernel_rfl, by kernel_rfl, by kernel_rfl, by kernel_rfl⟩

/-- slices.ContainsFunc[[]jacquard/api.Try,jacquard/api.Try] -/
def c14 : FC :=
  .seq (.ops [
    ⟨(some 4), none, .mov (.val (.bool false))⟩])
  (.seq (.ops [
    ⟨(some 5), none, .mov (.tmp 0)⟩,
    ⟨(some 6), none, .mov (.tmp 1)⟩,
    ⟨(some 7), none, .call (.val (.fn 25 [])) [(.tmp 5), (.tmp 6)]⟩,
    ⟨(some 8), none, .bin .geq .other (.tmp 7) (.val (.int .i64 0))⟩,
    ⟨(some 4), none, .mov (.tmp 8)⟩])
  (.ret))
def e14 : FEnt := ⟨9, c14, [.tmp 4]⟩
theorem v14 : Valid Tryd.prog 14 e14 :=
  ⟨Tryd.f14, Tryd.f14.body.getD .skip, Tryd.func14, by kernel_rfl, by kernel_rfl, by kernel_rfl, by kernel_rfl, by kernel_rfl⟩

/-- jacquard/verify.Check$1 -/
def c15 : FC :=
  .seq (.ops [
    ⟨(some 2), none, .box 50 (.tmp 0)⟩,
    ⟨(some 3), none, .mov (.val (.bool false))⟩])
  (.seq (.ops [
    ⟨(some 4), none, .load (some 4) (.tmp 2)⟩,
    ⟨(some 5), none, .faddr 4 (.tmp 1)⟩,
    ⟨(some 6), none, .load none (.tmp 5)⟩,
    ⟨(some 7), none, .len false (.tmp 6)⟩,
    ⟨(some 8), none, .call (.val (.fn 16 [])) [(.tmp 4), (.tmp 7)]⟩,
    ⟨(some 3), none, .mov (.tmp 8)⟩])
  (.ret))
def e15 : FEnt := ⟨9, c15, [.tmp 3]⟩
theorem v15 : Valid Tryd.prog 15 e15 :=
  ⟨Tryd.f15, Tryd.f15.body.getD .skip, Tryd.func15, by kernel_rfl, by kernel_rfl, by kernel_rfl, by kernel_rfl, by kernel_rfl⟩

/-- jacquard/verify.trying -/
def c16 : FC :=
  .seq (.ops [
    ⟨(some 2), none, .box 50 (.tmp 0)⟩,
    ⟨(some 4), none, .mov (.val (.bool false))⟩])
  (.seq (.ops [
    ⟨(some 5), none, .faddr 0 (.tmp 2)⟩,
    ⟨(some 6), none, .load none (.tmp 5)⟩,
    ⟨(some 7), none, .bin .lss .other (.tmp 6) (.val (.int .i64 0))⟩,
    ⟨(some 8), none, .mov (.tmp 7)⟩,
    ⟨(some 9), some (8, false), .faddr 0 (.tmp 2)⟩,
    ⟨(some 10), some (8, false), .load none (.tmp 9)⟩,
    ⟨(some 11), some (8, false), .faddr 1 (.tmp 2)⟩,
    ⟨(some 12), some (8, false), .load none (.tmp 11)⟩,
    ⟨(some 13), some (8, false), .bin .gtr .other (.tmp 10) (.tmp 12)⟩,
    ⟨(some 14), none, .pick (.tmp 8) (.val (.bool true)) (.tmp 13)⟩,
    ⟨(some 15), none, .mov (.tmp 14)⟩,
    ⟨(some 16), some (15, false), .faddr 1 (.tmp 2)⟩,
    ⟨(some 17), some (15, false), .load none (.tmp 16)⟩,
    ⟨(some 18), some (15, false), .faddr 2 (.tmp 2)⟩,
    ⟨(some 19), some (15, false), .load none (.tmp 18)⟩,
    ⟨(some 20), some (15, false), .bin .gtr .other (.tmp 17) (.tmp 19)⟩,
    ⟨(some 21), none, .pick (.tmp 15) (.val (.bool true)) (.tmp 20)⟩,
    ⟨(some 22), none, .mov (.tmp 21)⟩,
    ⟨(some 23), some (22, false), .faddr 2 (.tmp 2)⟩,
    ⟨(some 24), some (22, false), .load none (.tmp 23)⟩,
    ⟨(some 25), some (22, false), .mov (.tmp 1)⟩,
    ⟨(some 26), some (22, false), .bin .geq .other (.tmp 24) (.tmp 25)⟩,
    ⟨(some 27), none, .pick (.tmp 22) (.val (.bool true)) (.tmp 26)⟩,
    ⟨(some 28), none, .mov (.tmp 27)⟩,
    ⟨(some 29), some (28, false), .faddr 3 (.tmp 2)⟩,
    ⟨(some 30), some (28, false), .load none (.tmp 29)⟩,
    ⟨(some 31), some (28, false), .call (.val (.fn 18 [])) [(.tmp 30), (.val (.int .i64 0)), (.val (.int .i64 255))]⟩,
    ⟨(some 32), some (28, false), .un .not (.tmp 31)⟩,
    ⟨(some 33), none, .pick (.tmp 28) (.val (.bool true)) (.tmp 32)⟩,
    ⟨(some 4), none, .mov (.tmp 33)⟩])
  (.ret))
def e16 : FEnt := ⟨34, c16, [.tmp 4]⟩
theorem v16 : Valid Tryd.prog 16 e16 :=
  ⟨Tryd.f16, Tryd.f16.body.getD .skip, Tryd.func16, by kernel_rfl, by kernel_rfl, by kernel_rfl, by kernel_rfl, by kernel_rfl⟩

/-- jacquard/verify.flow -/
def c17 : FC :=
  .seq (.ops [
    ⟨(some 2), none, .box 26 (.tmp 0)⟩,
    ⟨(some 3), none, .box 38 (.tmp 1)⟩,
    ⟨(some 4), none, .mov (.val .nils)⟩,
    ⟨(some 5), none, .mov (.val (.int .i64 0))⟩,
    ⟨(some 6), none, .mov (.val (.bool false))⟩])
  (.scope (.seq (.ops [
    ⟨(some 26), none, .faddr 4 (.tmp 3)⟩,
    ⟨(some 27), none, .load none (.tmp 26)⟩,
    ⟨(some 28), none, .len false (.tmp 27)⟩,
    ⟨(some 29), none, .mkslice 3 8 [(.int .i64 0)] (.tmp 28) (.tmp 28)⟩,
    ⟨(some 7), none, .alloc 33 [.nils]⟩,
    ⟨none, none, .store 1 (.tmp 7) (.tmp 29)⟩])
  (.seq (.seq (.ops [
    ⟨(some 30), none, .load none (.tmp 7)⟩,
    ⟨(some 31), none, .len false (.tmp 30)⟩,
    ⟨(some 32), none, .mov (.val (.int .i64 0))⟩])
  (.block 0 (.loop (.seq (.ops [
        ⟨(some 33), none, .bin .lss .other (.tmp 32) (.tmp 31)⟩])
      (.seq (.cond (.tmp 33)
       (.skip)
       (.exit 0))
      (.seq (.block 1 (.seq (.ops [
          ⟨(some 34), none, .mov (.tmp 32)⟩,
          ⟨(some 8), none, .mov (.tmp 34)⟩])
        (.ops [
          ⟨(some 35), none, .load none (.tmp 7)⟩,
          ⟨(some 36), none, .mov (.tmp 8)⟩,
          ⟨(some 37), none, .iaddr 1 (.tmp 35) (.tmp 36)⟩,
          ⟨none, none, .store 1 (.tmp 37) (.val (.int .i64 (-1)))⟩])))
      (.ops [
        ⟨(some 38), none, .bin .add .other (.tmp 32) (.val (.int .i64 1))⟩,
        ⟨(some 32), none, .mov (.tmp 38)⟩])))))))
  (.seq (.ops [
    ⟨(some 39), none, .load none (.tmp 7)⟩,
    ⟨(some 40), none, .iaddr 1 (.tmp 39) (.val (.int .i64 0))⟩,
    ⟨none, none, .store 1 (.tmp 40) (.val (.int .i64 0))⟩])
  (.seq (.ops [
    ⟨(some 41), none, .bslice 3 1 [(.int .i64 0)] 1 [(0, 1, (.val (.int .i64 0)))]⟩,
    ⟨(some 9), none, .alloc 33 [.nils]⟩,
    ⟨none, none, .store 1 (.tmp 9) (.tmp 41)⟩])
  (.seq (.ops [
    ⟨(some 10), none, .alloc 3 [(.int .i64 0)]⟩,
    ⟨none, none, .store 1 (.tmp 10) (.val (.int .i64 (-1)))⟩])
  (.seq (.ops [
    ⟨(some 42), none, .mkfn 26 [(.tmp 10), (.tmp 7), (.tmp 9)]⟩,
    ⟨(some 11), none, .mov (.tmp 42)⟩])
  (.seq (.label 0)
  (.seq (.seq (.ops [
    ⟨(some 12), none, .mov (.val (.int .i64 0))⟩])
  (.block 2 (.loop (.seq (.seq (.ops [
        ⟨(some 43), none, .mov (.tmp 12)⟩,
        ⟨(some 44), none, .load none (.tmp 9)⟩,
        ⟨(some 45), none, .len false (.tmp 44)⟩,
        ⟨(some 46), none, .bin .lss .other (.tmp 43) (.tmp 45)⟩])
      (.cond (.tmp 46)
       (.skip)
       (.exit 2)))
      (.seq (.block 3 (.seq (.ops [
          ⟨(some 49), none, .load none (.tmp 9)⟩,
          ⟨(some 50), none, .mov (.tmp 12)⟩,
          ⟨(some 51), none, .iaddr 1 (.tmp 49) (.tmp 50)⟩,
          ⟨(some 52), none, .load none (.tmp 51)⟩,
          ⟨(some 13), none, .mov (.tmp 52)⟩])
        (.seq (.ops [
          ⟨(some 53), none, .faddr 4 (.tmp 3)⟩,
          ⟨(some 54), none, .load none (.tmp 53)⟩,
          ⟨(some 55), none, .mov (.tmp 13)⟩,
          ⟨(some 56), none, .iaddr 3 (.tmp 54) (.tmp 55)⟩,
          ⟨(some 57), none, .load (some 3) (.tmp 56)⟩,
          ⟨(some 14), none, .alloc 40 [(.int .i64 0), (.int .i64 0), (.int .i64 0)]⟩,
          ⟨none, none, .store 3 (.tmp 14) (.tmp 57)⟩])
        (.seq (.ops [
          ⟨(some 59), none, .load (some 4) (.tmp 2)⟩,
          ⟨(some 60), none, .load (some 3) (.tmp 14)⟩,
          ⟨(some 61), none, .call (.val (.fn 27 [])) [(.tmp 59), (.tmp 60)]⟩,
          ⟨(some 58), none, .mov (.tmp 61)⟩,
          ⟨(some 62), none, .extract (.tmp 58) 0⟩,
          ⟨(some 63), none, .extract (.tmp 58) 1⟩,
          ⟨(some 64), none, .extract (.tmp 58) 2⟩,
          ⟨(some 15), none, .mov (.tmp 62)⟩,
          ⟨(some 16), none, .mov (.tmp 63)⟩,
          ⟨(some 17), none, .mov (.tmp 64)⟩])
        (.seq (.ops [
          ⟨(some 65), none, .load none (.tmp 7)⟩,
          ⟨(some 66), none, .mov (.tmp 13)⟩,
          ⟨(some 67), none, .iaddr 1 (.tmp 65) (.tmp 66)⟩,
          ⟨(some 68), none, .load none (.tmp 67)⟩,
          ⟨(some 69), none, .mov (.tmp 15)⟩,
          ⟨(some 70), none, .bin .sub .other (.tmp 68) (.tmp 69)⟩,
          ⟨(some 18), none, .mov (.tmp 70)⟩])
        (.seq (.ops [
          ⟨(some 72), none, .faddr 0 (.tmp 14)⟩,
          ⟨(some 73), none, .load none (.tmp 72)⟩,
          ⟨(some 74), none, .call (.val (.fn 28 [])) [(.tmp 73)]⟩,
          ⟨(some 71), none, .mov (.tmp 74)⟩,
          ⟨(some 75), none, .extract (.tmp 71) 0⟩,
          ⟨(some 76), none, .extract (.tmp 71) 1⟩,
          ⟨(some 19), none, .mov (.tmp 75)⟩,
          ⟨(some 20), none, .mov (.tmp 76)⟩])
        (.seq (.block 4 (.seq (.block 6 (.block 5 (.seq (.seq (.seq (.seq (.ops [
                ⟨(some 78), none, .mov (.tmp 18)⟩,
                ⟨(some 79), none, .bin .lss .other (.tmp 78) (.val (.int .i64 0))⟩,
                ⟨(some 77), none, .mov (.tmp 79)⟩])
              (.cond (.tmp 77)
               (.skip)
               (.ops [
                  ⟨(some 80), none, .mov (.tmp 18)⟩,
                  ⟨(some 81), none, .mov (.tmp 16)⟩,
                  ⟨(some 82), none, .bin .add .other (.tmp 80) (.tmp 81)⟩,
                  ⟨(some 83), none, .bin .gtr .other (.tmp 82) (.val (.int .i64 256))⟩,
                  ⟨(some 77), none, .mov (.tmp 83)⟩])))
              (.cond (.tmp 77)
               (.exit 5)
               (.skip)))
              (.seq (.ops [
                ⟨(some 85), none, .mov (.tmp 19)⟩,
                ⟨(some 86), none, .mov (.tmp 85)⟩,
                ⟨(some 87), some (86, true), .mov (.tmp 13)⟩,
                ⟨(some 88), some (86, true), .faddr 4 (.tmp 3)⟩,
                ⟨(some 89), some (86, true), .load none (.tmp 88)⟩,
                ⟨(some 90), some (86, true), .len false (.tmp 89)⟩,
                ⟨(some 91), some (86, true), .bin .sub .other (.tmp 90) (.val (.int .i64 1))⟩,
                ⟨(some 92), some (86, true), .bin .eql .other (.tmp 87) (.tmp 91)⟩,
                ⟨(some 93), none, .pick (.tmp 86) (.tmp 92) (.val (.bool false))⟩,
                ⟨(some 84), none, .mov (.tmp 93)⟩])
              (.cond (.tmp 84)
               (.exit 6)
               (.skip))))
              (.exit 4))))
          (.seq (.seq (.ops [
            ⟨(some 94), none, .mov (.tmp 13)⟩,
            ⟨(some 4), none, .mov (.val .nils)⟩,
            ⟨(some 5), none, .mov (.tmp 94)⟩,
            ⟨(some 6), none, .mov (.val (.bool false))⟩])
          (.ret))
          (.exit 4))))
        (.seq (.seq (.ops [
          ⟨(some 95), none, .faddr 5 (.tmp 3)⟩,
          ⟨(some 96), none, .load none (.tmp 95)⟩,
          ⟨(some 97), none, .len false (.tmp 96)⟩,
          ⟨(some 98), none, .mov (.val (.int .i64 0))⟩])
        (.block 7 (.loop (.seq (.ops [
              ⟨(some 99), none, .bin .lss .other (.tmp 98) (.tmp 97)⟩])
            (.seq (.cond (.tmp 99)
             (.skip)
             (.exit 7))
            (.seq (.block 8 (.seq (.ops [
                ⟨(some 100), none, .iaddr 4 (.tmp 96) (.tmp 98)⟩,
                ⟨(some 101), none, .load (some 4) (.tmp 100)⟩,
                ⟨(some 22), none, .alloc 50 [(.int .i64 0), (.int .i64 0), (.int .i64 0), (.int .i64 0)]⟩,
                ⟨none, none, .store 4 (.tmp 22) (.tmp 101)⟩])
              (.seq (.ops [
                ⟨(some 102), none, .faddr 0 (.tmp 22)⟩,
                ⟨(some 103), none, .load none (.tmp 102)⟩,
                ⟨(some 104), none, .mov (.tmp 13)⟩,
                ⟨(some 105), none, .bin .leq .other (.tmp 103) (.tmp 104)⟩,
                ⟨(some 106), none, .mov (.tmp 105)⟩,
                ⟨(some 107), some (106, true), .mov (.tmp 13)⟩,
                ⟨(some 108), some (106, true), .faddr 1 (.tmp 22)⟩,
                ⟨(some 109), some (106, true), .load none (.tmp 108)⟩,
                ⟨(some 110), some (106, true), .bin .lss .other (.tmp 107) (.tmp 109)⟩,
                ⟨(some 111), none, .pick (.tmp 106) (.tmp 110) (.val (.bool false))⟩,
                ⟨(some 112), none, .mov (.tmp 111)⟩,
                ⟨(some 113), some (112, true), .faddr 3 (.tmp 22)⟩,
                ⟨(some 114), some (112, true), .load none (.tmp 113)⟩,
                ⟨(some 115), some (112, true), .mov (.tmp 18)⟩,
                ⟨(some 116), some (112, true), .bin .gtr .other (.tmp 114) (.tmp 115)⟩,
                ⟨(some 117), none, .pick (.tmp 112) (.tmp 116) (.val (.bool false))⟩])
              (.cond (.tmp 117)
               (.seq (.ops [
                  ⟨(some 118), none, .mov (.tmp 13)⟩,
                  ⟨(some 4), none, .mov (.val .nils)⟩,
                  ⟨(some 5), none, .mov (.tmp 118)⟩,
                  ⟨(some 6), none, .mov (.val (.bool false))⟩])
                (.ret))
               (.skip)))))
            (.ops [
              ⟨(some 119), none, .bin .add .other (.tmp 98) (.val (.int .i64 1))⟩,
              ⟨(some 98), none, .mov (.tmp 119)⟩])))))))
        (.seq (.seq (.ops [
          ⟨(some 120), none, .mov (.tmp 19)⟩])
        (.cond (.tmp 120)
         (.ops [
            ⟨(some 121), none, .mov (.tmp 11)⟩,
            ⟨(some 122), none, .mov (.tmp 13)⟩,
            ⟨(some 123), none, .bin .add .other (.tmp 122) (.val (.int .i64 1))⟩,
            ⟨(some 124), none, .mov (.tmp 18)⟩,
            ⟨(some 125), none, .mov (.tmp 16)⟩,
            ⟨(some 126), none, .bin .add .other (.tmp 124) (.tmp 125)⟩,
            ⟨(some 127), none, .call (.tmp 121) [(.tmp 123), (.tmp 126)]⟩])
         (.skip)))
        (.seq (.seq (.ops [
          ⟨(some 128), none, .mov (.tmp 20)⟩])
        (.cond (.tmp 128)
         (.seq (.ops [
            ⟨(some 129), none, .mov (.tmp 18)⟩,
            ⟨(some 23), none, .mov (.tmp 129)⟩])
          (.seq (.seq (.ops [
            ⟨(some 130), none, .faddr 0 (.tmp 14)⟩,
            ⟨(some 131), none, .load none (.tmp 130)⟩,
            ⟨(some 132), none, .bin .eql .other (.tmp 131) (.val (.int .i64 22))⟩,
            ⟨(some 133), none, .mov (.tmp 132)⟩,
            ⟨(some 134), some (133, false), .faddr 0 (.tmp 14)⟩,
            ⟨(some 135), some (133, false), .load none (.tmp 134)⟩,
            ⟨(some 136), some (133, false), .bin .eql .other (.tmp 135) (.val (.int .i64 23))⟩,
            ⟨(some 137), none, .pick (.tmp 133) (.val (.bool true)) (.tmp 136)⟩])
          (.cond (.tmp 137)
           (.ops [
              ⟨(some 138), none, .load none (.tmp 7)⟩,
              ⟨(some 139), none, .mov (.tmp 13)⟩,
              ⟨(some 140), none, .iaddr 1 (.tmp 138) (.tmp 139)⟩,
              ⟨(some 141), none, .load none (.tmp 140)⟩,
              ⟨(some 23), none, .mov (.tmp 141)⟩])
           (.skip)))
          (.ops [
            ⟨(some 142), none, .mov (.tmp 11)⟩,
            ⟨(some 143), none, .faddr 1 (.tmp 14)⟩,
            ⟨(some 144), none, .load none (.tmp 143)⟩,
            ⟨(some 145), none, .mov (.tmp 23)⟩,
            ⟨(some 146), none, .call (.tmp 142) [(.tmp 144), (.tmp 145)]⟩])))
         (.skip)))
        (.seq (.seq (.ops [
          ⟨(some 147), none, .faddr 5 (.tmp 3)⟩,
          ⟨(some 148), none, .load none (.tmp 147)⟩,
          ⟨(some 149), none, .len false (.tmp 148)⟩,
          ⟨(some 150), none, .mov (.val (.int .i64 0))⟩])
        (.block 9 (.loop (.seq (.ops [
              ⟨(some 151), none, .bin .lss .other (.tmp 150) (.tmp 149)⟩])
            (.seq (.cond (.tmp 151)
             (.skip)
             (.exit 9))
            (.seq (.block 10 (.seq (.ops [
                ⟨(some 152), none, .iaddr 4 (.tmp 148) (.tmp 150)⟩,
                ⟨(some 153), none, .load (some 4) (.tmp 152)⟩,
                ⟨(some 25), none, .alloc 50 [(.int .i64 0), (.int .i64 0), (.int .i64 0), (.int .i64 0)]⟩,
                ⟨none, none, .store 4 (.tmp 25) (.tmp 153)⟩])
              (.seq (.ops [
                ⟨(some 154), none, .faddr 0 (.tmp 25)⟩,
                ⟨(some 155), none, .load none (.tmp 154)⟩,
                ⟨(some 156), none, .mov (.tmp 13)⟩,
                ⟨(some 157), none, .bin .leq .other (.tmp 155) (.tmp 156)⟩,
                ⟨(some 158), none, .mov (.tmp 157)⟩,
                ⟨(some 159), some (158, true), .mov (.tmp 13)⟩,
                ⟨(some 160), some (158, true), .faddr 1 (.tmp 25)⟩,
                ⟨(some 161), some (158, true), .load none (.tmp 160)⟩,
                ⟨(some 162), some (158, true), .bin .lss .other (.tmp 159) (.tmp 161)⟩,
                ⟨(some 163), none, .pick (.tmp 158) (.tmp 162) (.val (.bool false))⟩])
              (.cond (.tmp 163)
               (.ops [
                  ⟨(some 164), none, .mov (.tmp 11)⟩,
                  ⟨(some 165), none, .faddr 2 (.tmp 25)⟩,
                  ⟨(some 166), none, .load none (.tmp 165)⟩,
                  ⟨(some 167), none, .faddr 3 (.tmp 25)⟩,
                  ⟨(some 168), none, .load none (.tmp 167)⟩,
                  ⟨(some 169), none, .bin .add .other (.tmp 168) (.val (.int .i64 1))⟩,
                  ⟨(some 170), none, .call (.tmp 164) [(.tmp 166), (.tmp 169)]⟩])
               (.skip)))))
            (.ops [
              ⟨(some 171), none, .bin .add .other (.tmp 150) (.val (.int .i64 1))⟩,
              ⟨(some 150), none, .mov (.tmp 171)⟩])))))))
        (.seq (.ops [
          ⟨(some 172), none, .load none (.tmp 10)⟩,
          ⟨(some 173), none, .bin .geq .other (.tmp 172) (.val (.int .i64 0))⟩])
        (.cond (.tmp 173)
         (.exit 2)
         (.skip))))))))))))))
      (.ops [
        ⟨(some 47), none, .mov (.tmp 12)⟩,
        ⟨(some 48), none, .bin .add .other (.tmp 47) (.val (.int .i64 1))⟩,
        ⟨(some 12), none, .mov (.tmp 48)⟩]))))))
  (.seq (.draw (.ops [
    ⟨(some 174), none, .load none (.tmp 7)⟩,
    ⟨(some 175), none, .load none (.tmp 10)⟩,
    ⟨(some 176), none, .load none (.tmp 10)⟩,
    ⟨(some 177), none, .bin .lss .other (.tmp 176) (.val (.int .i64 0))⟩,
    ⟨(some 4), none, .mov (.tmp 174)⟩,
    ⟨(some 5), none, .mov (.tmp 175)⟩,
    ⟨(some 6), none, .mov (.tmp 177)⟩] (.done)))
  (.ret)))))))))))
def e17 : FEnt := ⟨178, c17, [.tmp 4, .tmp 5, .tmp 6]⟩
theorem v17 : Valid Tryd.prog 17 e17 :=
  ⟨Tryd.f17, Tryd.f17.body.getD .skip, Tryd.func17, by kernel_rfl, by kernel_rfl, by kernel_rfl, by kernel_rfl, by kernel_rfl⟩

/-- jacquard/verify.between -/
def c18 : FC :=
  .seq (.ops [
    ⟨(some 6), none, .mov (.val (.bool false))⟩])
  (.seq (.ops [
    ⟨(some 7), none, .mov (.tmp 0)⟩,
    ⟨(some 8), none, .mov (.tmp 1)⟩,
    ⟨(some 9), none, .bin .geq .other (.tmp 7) (.tmp 8)⟩,
    ⟨(some 10), none, .mov (.tmp 9)⟩,
    ⟨(some 11), some (10, true), .mov (.tmp 0)⟩,
    ⟨(some 12), some (10, true), .mov (.tmp 2)⟩,
    ⟨(some 13), some (10, true), .bin .leq .other (.tmp 11) (.tmp 12)⟩,
    ⟨(some 14), none, .pick (.tmp 10) (.tmp 13) (.val (.bool false))⟩,
    ⟨(some 6), none, .mov (.tmp 14)⟩])
  (.ret))
def e18 : FEnt := ⟨15, c18, [.tmp 6]⟩
theorem v18 : Valid Tryd.prog 18 e18 :=
  ⟨Tryd.f18, Tryd.f18.body.getD .skip, Tryd.func18, by kernel_rfl, by kernel_rfl, by kernel_rfl, by kernel_rfl, by kernel_rfl⟩

/-- slices.ContainsFunc[[]int,int] -/
def c19 : FC :=
  .seq (.ops [
    ⟨(some 4), none, .mov (.val (.bool false))⟩])
  (.seq (.ops [
    ⟨(some 5), none, .mov (.tmp 0)⟩,
    ⟨(some 6), none, .mov (.tmp 1)⟩,
    ⟨(some 7), none, .call (.val (.fn 29 [])) [(.tmp 5), (.tmp 6)]⟩,
    ⟨(some 8), none, .bin .geq .other (.tmp 7) (.val (.int .i64 0))⟩,
    ⟨(some 4), none, .mov (.tmp 8)⟩])
  (.ret))
def e19 : FEnt := ⟨9, c19, [.tmp 4]⟩
theorem v19 : Valid Tryd.prog 19 e19 :=
  ⟨Tryd.f19, Tryd.f19.body.getD .skip, Tryd.func19, by kernel_rfl, by kernel_rfl, by kernel_rfl, by kernel_rfl, by kernel_rfl⟩

/-- jacquard/verify.whole$1 -/
def c20 : FC :=
  .seq (.ops [
    ⟨(some 4), none, .mov (.val (.bool false))⟩])
  (.seq (.draw (.ops [
    ⟨(some 5), none, .faddr 1 (.tmp 1)⟩,
    ⟨(some 6), none, .load none (.tmp 5)⟩,
    ⟨(some 7), none, .mov (.tmp 0)⟩,
    ⟨(some 8), none, .iaddr 1 (.tmp 6) (.tmp 7)⟩,
    ⟨(some 9), none, .load none (.tmp 8)⟩,
    ⟨(some 10), none, .faddr 1 (.tmp 1)⟩,
    ⟨(some 11), none, .load none (.tmp 10)⟩,
    ⟨(some 12), none, .load none (.tmp 2)⟩,
    ⟨(some 13), none, .iaddr 1 (.tmp 11) (.tmp 12)⟩,
    ⟨(some 14), none, .load none (.tmp 13)⟩,
    ⟨(some 15), none, .bin .eql .other (.tmp 9) (.tmp 14)⟩,
    ⟨(some 4), none, .mov (.tmp 15)⟩] (.done)))
  (.ret))
def e20 : FEnt := ⟨16, c20, [.tmp 4]⟩
theorem v20 : Valid Tryd.prog 20 e20 :=
  ⟨Tryd.f20, Tryd.f20.body.getD .skip, Tryd.func20, by kernel_rfl, by kernel_rfl, by kernel_rfl, by kernel_rfl, by kernel_rfl⟩

/-- slices.ContainsFunc[[]jacquard/api.Cap,jacquard/api.Cap] -/
def c21 : FC :=
  .seq (.ops [
    ⟨(some 4), none, .mov (.val (.bool false))⟩])
  (.seq (.ops [
    ⟨(some 5), none, .mov (.tmp 0)⟩,
    ⟨(some 6), none, .mov (.tmp 1)⟩,
    ⟨(some 7), none, .call (.val (.fn 30 [])) [(.tmp 5), (.tmp 6)]⟩,
    ⟨(some 8), none, .bin .geq .other (.tmp 7) (.val (.int .i64 0))⟩,
    ⟨(some 4), none, .mov (.tmp 8)⟩])
  (.ret))
def e21 : FEnt := ⟨9, c21, [.tmp 4]⟩
theorem v21 : Valid Tryd.prog 21 e21 :=
  ⟨Tryd.f21, Tryd.f21.body.getD .skip, Tryd.func21, by kernel_rfl, by kernel_rfl, by kernel_rfl, by kernel_rfl, by kernel_rfl⟩

/-- jacquard/verify.frame$1 -/
def c22 : FC :=
  .seq (.ops [
    ⟨(some 1), none, .box 59 (.tmp 0)⟩,
    ⟨(some 2), none, .mov (.val (.bool false))⟩])
  (.seq (.ops [
    ⟨(some 3), none, .faddr 0 (.tmp 1)⟩,
    ⟨(some 4), none, .load none (.tmp 3)⟩,
    ⟨(some 5), none, .call (.val (.fn 18 [])) [(.tmp 4), (.val (.int .i64 0)), (.val (.int .i64 1))]⟩,
    ⟨(some 6), none, .un .not (.tmp 5)⟩,
    ⟨(some 2), none, .mov (.tmp 6)⟩])
  (.ret))
def e22 : FEnt := ⟨7, c22, [.tmp 2]⟩
theorem v22 : Valid Tryd.prog 22 e22 :=
  ⟨Tryd.f22, Tryd.f22.body.getD .skip, Tryd.func22, by kernel_rfl, by kernel_rfl, by kernel_rfl, by kernel_rfl, by kernel_rfl⟩

/-- jacquard/verify.made -/
def c23 : FC :=
  .seq (.ops [
    ⟨(some 3), none, .box 26 (.tmp 0)⟩,
    ⟨(some 4), none, .box 38 (.tmp 1)⟩,
    ⟨(some 6), none, .mov (.val (.bool false))⟩])
  (.seq (.seq (.ops [
    ⟨(some 7), none, .mov (.tmp 2)⟩,
    ⟨(some 8), none, .faddr 0 (.tmp 3)⟩,
    ⟨(some 9), none, .load none (.tmp 8)⟩,
    ⟨(some 10), none, .len false (.tmp 9)⟩,
    ⟨(some 11), none, .bin .sub .other (.tmp 10) (.val (.int .i64 1))⟩,
    ⟨(some 12), none, .call (.val (.fn 18 [])) [(.tmp 7), (.val (.int .i64 1)), (.tmp 11)]⟩,
    ⟨(some 13), none, .un .not (.tmp 12)⟩])
  (.cond (.tmp 13)
   (.seq (.ops [
      ⟨(some 6), none, .mov (.val (.bool false))⟩])
    (.ret))
   (.skip)))
  (.seq (.ops [
    ⟨(some 14), none, .faddr 0 (.tmp 3)⟩,
    ⟨(some 15), none, .load none (.tmp 14)⟩,
    ⟨(some 16), none, .mov (.tmp 2)⟩,
    ⟨(some 17), none, .iaddr 6 (.tmp 15) (.tmp 16)⟩,
    ⟨(some 18), none, .faddr 3 (.tmp 17)⟩,
    ⟨(some 19), none, .load none (.tmp 18)⟩,
    ⟨(some 20), none, .mkfn 31 [(.tmp 4)]⟩,
    ⟨(some 21), none, .call (.val (.fn 21 [])) [(.tmp 19), (.tmp 20)]⟩,
    ⟨(some 22), none, .un .not (.tmp 21)⟩,
    ⟨(some 6), none, .mov (.tmp 22)⟩])
  (.ret)))
def e23 : FEnt := ⟨23, c23, [.tmp 6]⟩
theorem v23 : Valid Tryd.prog 23 e23 :=
  ⟨Tryd.f23, Tryd.f23.body.getD .skip, Tryd.func23, by kernel_rfl, by kernel_rfl, by kernel_rfl, by kernel_rfl, by kernel_rfl⟩

/-- jacquard/code.Name -/
def c24 : FC :=
  .seq (.ops [
    ⟨(some 2), none, .mov (.val (.str ⟨#[]⟩))⟩])
  (.seq (.seq (.ops [
    ⟨(some 3), none, .mov (.tmp 0)⟩,
    ⟨(some 4), none, .bin .lss .other (.tmp 3) (.val (.int .i64 0))⟩,
    ⟨(some 5), none, .mov (.tmp 4)⟩,
    ⟨(some 6), some (5, false), .mov (.tmp 0)⟩,
    ⟨(some 7), some (5, false), .bin .geq .other (.tmp 6) (.val (.int .i64 33))⟩,
    ⟨(some 8), none, .pick (.tmp 5) (.val (.bool true)) (.tmp 7)⟩])
  (.cond (.tmp 8)
   (.seq (.ops [
      ⟨(some 2), none, .mov (.val (.str ⟨#[]⟩))⟩])
    (.ret))
   (.skip)))
  (.seq (.ops [
    ⟨(some 9), none, .mov (.tmp 0)⟩,
    ⟨(some 10), none, .iaddrA 33 1 (.val (.ptr (.base ⟨0, 0, none⟩))) (.tmp 9)⟩,
    ⟨(some 11), none, .load none (.tmp 10)⟩,
    ⟨(some 2), none, .mov (.tmp 11)⟩])
  (.ret)))
def e24 : FEnt := ⟨12, c24, [.tmp 2]⟩
theorem v24 : Valid Tryd.prog 24 e24 :=
  ⟨Tryd.f24, Tryd.f24.body.getD .skip, Tryd.func24, by kernel_rfl, by kernel_rfl, by kernel_rfl, by kernel_rfl, by kernel_rfl⟩

/-- slices.IndexFunc[[]jacquard/api.Try,jacquard/api.Try] -/
def c25 : FC :=
  .seq (.ops [
    ⟨(some 4), none, .mov (.val (.int .i64 0))⟩])
  (.seq (.seq (.ops [
    ⟨(some 6), none, .mov (.tmp 0)⟩,
    ⟨(some 7), none, .len false (.tmp 6)⟩,
    ⟨(some 8), none, .mov (.val (.int .i64 0))⟩])
  (.block 0 (.loop (.seq (.ops [
        ⟨(some 9), none, .bin .lss .other (.tmp 8) (.tmp 7)⟩])
      (.seq (.cond (.tmp 9)
       (.skip)
       (.exit 0))
      (.seq (.block 1 (.seq (.ops [
          ⟨(some 10), none, .mov (.tmp 8)⟩,
          ⟨(some 5), none, .mov (.tmp 10)⟩])
        (.seq (.ops [
          ⟨(some 11), none, .mov (.tmp 1)⟩,
          ⟨(some 12), none, .mov (.tmp 0)⟩,
          ⟨(some 13), none, .mov (.tmp 5)⟩,
          ⟨(some 14), none, .iaddr 4 (.tmp 12) (.tmp 13)⟩,
          ⟨(some 15), none, .load (some 4) (.tmp 14)⟩,
          ⟨(some 16), none, .call (.tmp 11) [(.tmp 15)]⟩])
        (.cond (.tmp 16)
         (.seq (.ops [
            ⟨(some 17), none, .mov (.tmp 5)⟩,
            ⟨(some 4), none, .mov (.tmp 17)⟩])
          (.ret))
         (.skip)))))
      (.ops [
        ⟨(some 18), none, .bin .add .other (.tmp 8) (.val (.int .i64 1))⟩,
        ⟨(some 8), none, .mov (.tmp 18)⟩])))))))
  (.seq (.ops [
    ⟨(some 4), none, .mov (.val (.int .i64 (-1)))⟩])
  (.ret)))
def e25 : FEnt := ⟨19, c25, [.tmp 4]⟩
theorem v25 : Valid Tryd.prog 25 e25 :=
  ⟨Tryd.f25, Tryd.f25.body.getD .skip, Tryd.func25, by kernel_rfl, by kernel_rfl, by kernel_rfl, by kernel_rfl, by kernel_rfl⟩

/-- jacquard/verify.flow$1 -/
def c26 : FC :=
  .block 0 (.seq (.ops [
      ⟨(some 8), none, .load none (.tmp 2)⟩,
      ⟨(some 9), none, .bin .geq .other (.tmp 8) (.val (.int .i64 0))⟩,
      ⟨(some 7), none, .mov (.tmp 9)⟩])
    (.cond (.tmp 7)
     (.skip)
     (.seq (.ops [
        ⟨(some 11), none, .load none (.tmp 3)⟩,
        ⟨(some 12), none, .mov (.tmp 0)⟩,
        ⟨(some 13), none, .iaddr 1 (.tmp 11) (.tmp 12)⟩,
        ⟨(some 14), none, .load none (.tmp 13)⟩,
        ⟨(some 15), none, .bin .lss .other (.tmp 14) (.val (.int .i64 0))⟩,
        ⟨(some 10), none, .mov (.tmp 15)⟩])
      (.cond (.tmp 10)
       (.seq (.ops [
          ⟨(some 16), none, .load none (.tmp 3)⟩,
          ⟨(some 17), none, .mov (.tmp 0)⟩,
          ⟨(some 18), none, .mov (.tmp 1)⟩,
          ⟨(some 19), none, .iaddr 1 (.tmp 16) (.tmp 17)⟩,
          ⟨none, none, .store 1 (.tmp 19) (.tmp 18)⟩])
        (.ops [
          ⟨(some 20), none, .load none (.tmp 4)⟩,
          ⟨(some 21), none, .mov (.tmp 0)⟩,
          ⟨(some 22), none, .bslice 3 1 [(.int .i64 0)] 1 [(0, 1, (.tmp 21))]⟩,
          ⟨(some 23), none, .append 3 1 8 (.tmp 20) (.tmp 22)⟩,
          ⟨none, none, .store 1 (.tmp 4) (.tmp 23)⟩]))
       (.seq (.ops [
          ⟨(some 25), none, .load none (.tmp 3)⟩,
          ⟨(some 26), none, .mov (.tmp 0)⟩,
          ⟨(some 27), none, .iaddr 1 (.tmp 25) (.tmp 26)⟩,
          ⟨(some 28), none, .load none (.tmp 27)⟩,
          ⟨(some 29), none, .mov (.tmp 1)⟩,
          ⟨(some 30), none, .bin .neq .other (.tmp 28) (.tmp 29)⟩,
          ⟨(some 24), none, .mov (.tmp 30)⟩])
        (.cond (.tmp 24)
         (.ops [
            ⟨(some 31), none, .mov (.tmp 0)⟩,
            ⟨none, none, .store 1 (.tmp 2) (.tmp 31)⟩])
         (.skip)))))))
def e26 : FEnt := ⟨32, c26, []⟩
theorem v26 : Valid Tryd.prog 26 e26 :=
  ⟨Tryd.f26, Tryd.f26.body.getD .skip, Tryd.func26, by kernel_rfl, by kernel_rfl, by kernel_rfl, by kernel_rfl, by kernel_rfl⟩

/-- jacquard/code.Effect -/
def c27 : FC :=
  .seq (.ops [
    ⟨(some 2), none, .box 26 (.tmp 0)⟩,
    ⟨(some 3), none, .box 40 (.tmp 1)⟩,
    ⟨(some 4), none, .mov (.val (.int .i64 0))⟩,
    ⟨(some 5), none, .mov (.val (.int .i64 0))⟩,
    ⟨(some 6), none, .mov (.val (.int .i64 0))⟩])
  (.seq (.seq (.ops [
    ⟨(some 7), none, .faddr 0 (.tmp 3)⟩,
    ⟨(some 8), none, .load none (.tmp 7)⟩,
    ⟨(some 9), none, .bin .lss .other (.tmp 8) (.val (.int .i64 0))⟩,
    ⟨(some 10), none, .mov (.tmp 9)⟩,
    ⟨(some 11), some (10, false), .faddr 0 (.tmp 3)⟩,
    ⟨(some 12), some (10, false), .load none (.tmp 11)⟩,
    ⟨(some 13), some (10, false), .bin .geq .other (.tmp 12) (.val (.int .i64 33))⟩,
    ⟨(some 14), none, .pick (.tmp 10) (.val (.bool true)) (.tmp 13)⟩])
  (.cond (.tmp 14)
   (.seq (.ops [
      ⟨(some 4), none, .mov (.val (.int .i64 0))⟩,
      ⟨(some 5), none, .mov (.val (.int .i64 0))⟩,
      ⟨(some 6), none, .mov (.val (.int .i64 8))⟩])
    (.ret))
   (.skip)))
  (.seq (.draw (.ops [
    ⟨(some 15), none, .faddr 0 (.tmp 3)⟩,
    ⟨(some 16), none, .load none (.tmp 15)⟩,
    ⟨(some 17), none, .iaddrA 33 1 (.val (.ptr (.base ⟨1, 0, none⟩))) (.tmp 16)⟩,
    ⟨(some 18), none, .load none (.tmp 17)⟩,
    ⟨(some 19), none, .faddr 0 (.tmp 3)⟩,
    ⟨(some 20), none, .load none (.tmp 19)⟩,
    ⟨(some 21), none, .iaddrA 33 1 (.val (.ptr (.base ⟨2, 0, none⟩))) (.tmp 20)⟩,
    ⟨(some 22), none, .load none (.tmp 21)⟩,
    ⟨(some 4), none, .mov (.tmp 18)⟩,
    ⟨(some 5), none, .mov (.tmp 22)⟩] (.done)))
  (.seq (.seq (.ops [
    ⟨(some 23), none, .faddr 0 (.tmp 3)⟩,
    ⟨(some 24), none, .load none (.tmp 23)⟩])
  (.block 0 (.seq (.seq (.ops [
      ⟨(some 26), none, .bin .eql .other (.tmp 24) (.val (.int .i64 14))⟩,
      ⟨(some 25), none, .mov (.tmp 26)⟩])
    (.cond (.tmp 25)
     (.skip)
     (.seq (.ops [
        ⟨(some 27), none, .bin .eql .other (.tmp 24) (.val (.int .i64 25))⟩,
        ⟨(some 25), none, .mov (.tmp 27)⟩])
      (.cond (.tmp 25)
       (.skip)
       (.ops [
          ⟨(some 28), none, .bin .eql .other (.tmp 24) (.val (.int .i64 26))⟩,
          ⟨(some 25), none, .mov (.tmp 28)⟩])))))
    (.cond (.tmp 25)
     (.seq (.seq (.ops [
        ⟨(some 29), none, .faddr 1 (.tmp 3)⟩,
        ⟨(some 30), none, .load none (.tmp 29)⟩,
        ⟨(some 31), none, .bin .lss .other (.tmp 30) (.val (.int .i64 0))⟩,
        ⟨(some 32), none, .mov (.tmp 31)⟩,
        ⟨(some 33), some (32, false), .faddr 1 (.tmp 3)⟩,
        ⟨(some 34), some (32, false), .load none (.tmp 33)⟩,
        ⟨(some 35), some (32, false), .bin .gtr .other (.tmp 34) (.val (.int .i64 255))⟩,
        ⟨(some 36), none, .pick (.tmp 32) (.val (.bool true)) (.tmp 35)⟩])
      (.cond (.tmp 36)
       (.seq (.ops [
          ⟨(some 4), none, .mov (.val (.int .i64 0))⟩,
          ⟨(some 5), none, .mov (.val (.int .i64 0))⟩,
          ⟨(some 6), none, .mov (.val (.int .i64 1))⟩])
        (.ret))
       (.skip)))
      (.ops [
        ⟨(some 37), none, .mov (.tmp 4)⟩,
        ⟨(some 38), none, .faddr 1 (.tmp 3)⟩,
        ⟨(some 39), none, .load none (.tmp 38)⟩,
        ⟨(some 40), none, .bin .add .other (.tmp 37) (.tmp 39)⟩,
        ⟨(some 4), none, .mov (.tmp 40)⟩]))
     (.seq (.ops [
        ⟨(some 42), none, .bin .eql .other (.tmp 24) (.val (.int .i64 15))⟩,
        ⟨(some 41), none, .mov (.tmp 42)⟩])
      (.cond (.tmp 41)
       (.seq (.seq (.ops [
          ⟨(some 43), none, .faddr 1 (.tmp 3)⟩,
          ⟨(some 44), none, .load none (.tmp 43)⟩,
          ⟨(some 45), none, .bin .lss .other (.tmp 44) (.val (.int .i64 0))⟩,
          ⟨(some 46), none, .mov (.tmp 45)⟩,
          ⟨(some 47), some (46, false), .faddr 1 (.tmp 3)⟩,
          ⟨(some 48), some (46, false), .load none (.tmp 47)⟩,
          ⟨(some 49), some (46, false), .faddr 2 (.tmp 2)⟩,
          ⟨(some 50), some (46, false), .load none (.tmp 49)⟩,
          ⟨(some 51), some (46, false), .len false (.tmp 50)⟩,
          ⟨(some 52), some (46, false), .bin .geq .other (.tmp 48) (.tmp 51)⟩,
          ⟨(some 53), none, .pick (.tmp 46) (.val (.bool true)) (.tmp 52)⟩])
        (.cond (.tmp 53)
         (.seq (.ops [
            ⟨(some 4), none, .mov (.val (.int .i64 0))⟩,
            ⟨(some 5), none, .mov (.val (.int .i64 0))⟩,
            ⟨(some 6), none, .mov (.val (.int .i64 1))⟩])
          (.ret))
         (.skip)))
        (.ops [
          ⟨(some 54), none, .faddr 2 (.tmp 2)⟩,
          ⟨(some 55), none, .load none (.tmp 54)⟩,
          ⟨(some 56), none, .faddr 1 (.tmp 3)⟩,
          ⟨(some 57), none, .load none (.tmp 56)⟩,
          ⟨(some 58), none, .iaddr 1 (.tmp 55) (.tmp 57)⟩,
          ⟨(some 59), none, .load none (.tmp 58)⟩,
          ⟨(some 60), none, .len false (.tmp 59)⟩,
          ⟨(some 4), none, .mov (.tmp 60)⟩]))
       (.skip)))))))
  (.seq (.ops [
    ⟨(some 61), none, .mov (.tmp 4)⟩,
    ⟨(some 62), none, .mov (.tmp 5)⟩,
    ⟨(some 4), none, .mov (.tmp 61)⟩,
    ⟨(some 5), none, .mov (.tmp 62)⟩,
    ⟨(some 6), none, .mov (.val (.int .i64 0))⟩])
  (.ret)))))
def e27 : FEnt := ⟨63, c27, [.tmp 4, .tmp 5, .tmp 6]⟩
theorem v27 : Valid Tryd.prog 27 e27 :=
  ⟨Tryd.f27, Tryd.f27.body.getD .skip, Tryd.func27, by kernel_rfl, by kernel_rfl, by kernel_rfl, by kernel_rfl, by kernel_rfl⟩

/-- jacquard/verify.leads -/
def c28 : FC :=
  .seq (.ops [
    ⟨(some 2), none, .mov (.val (.bool false))⟩,
    ⟨(some 3), none, .mov (.val (.bool false))⟩])
  (.seq (.seq (.ops [
    ⟨(some 4), none, .mov (.tmp 0)⟩])
  (.block 0 (.seq (.seq (.ops [
      ⟨(some 6), none, .bin .eql .other (.tmp 4) (.val (.int .i64 20))⟩,
      ⟨(some 5), none, .mov (.tmp 6)⟩])
    (.cond (.tmp 5)
     (.skip)
     (.ops [
        ⟨(some 7), none, .bin .eql .other (.tmp 4) (.val (.int .i64 24))⟩,
        ⟨(some 5), none, .mov (.tmp 7)⟩])))
    (.cond (.tmp 5)
     (.seq (.ops [
        ⟨(some 2), none, .mov (.val (.bool false))⟩,
        ⟨(some 3), none, .mov (.val (.bool true))⟩])
      (.ret))
     (.seq (.seq (.ops [
        ⟨(some 9), none, .bin .eql .other (.tmp 4) (.val (.int .i64 27))⟩,
        ⟨(some 8), none, .mov (.tmp 9)⟩])
      (.cond (.tmp 8)
       (.skip)
       (.ops [
          ⟨(some 10), none, .bin .eql .other (.tmp 4) (.val (.int .i64 28))⟩,
          ⟨(some 8), none, .mov (.tmp 10)⟩])))
      (.cond (.tmp 8)
       (.seq (.ops [
          ⟨(some 2), none, .mov (.val (.bool false))⟩,
          ⟨(some 3), none, .mov (.val (.bool false))⟩])
        (.ret))
       (.seq (.seq (.ops [
          ⟨(some 12), none, .bin .eql .other (.tmp 4) (.val (.int .i64 21))⟩,
          ⟨(some 11), none, .mov (.tmp 12)⟩])
        (.cond (.tmp 11)
         (.skip)
         (.seq (.ops [
            ⟨(some 13), none, .bin .eql .other (.tmp 4) (.val (.int .i64 22))⟩,
            ⟨(some 11), none, .mov (.tmp 13)⟩])
          (.cond (.tmp 11)
           (.skip)
           (.ops [
              ⟨(some 14), none, .bin .eql .other (.tmp 4) (.val (.int .i64 23))⟩,
              ⟨(some 11), none, .mov (.tmp 14)⟩])))))
        (.cond (.tmp 11)
         (.seq (.ops [
            ⟨(some 2), none, .mov (.val (.bool true))⟩,
            ⟨(some 3), none, .mov (.val (.bool true))⟩])
          (.ret))
         (.skip)))))))))
  (.seq (.ops [
    ⟨(some 2), none, .mov (.val (.bool true))⟩,
    ⟨(some 3), none, .mov (.val (.bool false))⟩])
  (.ret)))
def e28 : FEnt := ⟨15, c28, [.tmp 2, .tmp 3]⟩
theorem v28 : Valid Tryd.prog 28 e28 :=
  ⟨Tryd.f28, Tryd.f28.body.getD .skip, Tryd.func28, by kernel_rfl, by kernel_rfl, by kernel_rfl, by kernel_rfl, by kernel_rfl⟩

/-- slices.IndexFunc[[]int,int] -/
def c29 : FC :=
  .seq (.ops [
    ⟨(some 4), none, .mov (.val (.int .i64 0))⟩])
  (.seq (.seq (.ops [
    ⟨(some 6), none, .mov (.tmp 0)⟩,
    ⟨(some 7), none, .len false (.tmp 6)⟩,
    ⟨(some 8), none, .mov (.val (.int .i64 0))⟩])
  (.block 0 (.loop (.seq (.ops [
        ⟨(some 9), none, .bin .lss .other (.tmp 8) (.tmp 7)⟩])
      (.seq (.cond (.tmp 9)
       (.skip)
       (.exit 0))
      (.seq (.block 1 (.seq (.ops [
          ⟨(some 10), none, .mov (.tmp 8)⟩,
          ⟨(some 5), none, .mov (.tmp 10)⟩])
        (.seq (.ops [
          ⟨(some 11), none, .mov (.tmp 1)⟩,
          ⟨(some 12), none, .mov (.tmp 0)⟩,
          ⟨(some 13), none, .mov (.tmp 5)⟩,
          ⟨(some 14), none, .iaddr 1 (.tmp 12) (.tmp 13)⟩,
          ⟨(some 15), none, .load none (.tmp 14)⟩,
          ⟨(some 16), none, .call (.tmp 11) [(.tmp 15)]⟩])
        (.cond (.tmp 16)
         (.seq (.ops [
            ⟨(some 17), none, .mov (.tmp 5)⟩,
            ⟨(some 4), none, .mov (.tmp 17)⟩])
          (.ret))
         (.skip)))))
      (.ops [
        ⟨(some 18), none, .bin .add .other (.tmp 8) (.val (.int .i64 1))⟩,
        ⟨(some 8), none, .mov (.tmp 18)⟩])))))))
  (.seq (.ops [
    ⟨(some 4), none, .mov (.val (.int .i64 (-1)))⟩])
  (.ret)))
def e29 : FEnt := ⟨19, c29, [.tmp 4]⟩
theorem v29 : Valid Tryd.prog 29 e29 :=
  ⟨Tryd.f29, Tryd.f29.body.getD .skip, Tryd.func29, by kernel_rfl, by kernel_rfl, by kernel_rfl, by kernel_rfl, by kernel_rfl⟩

/-- slices.IndexFunc[[]jacquard/api.Cap,jacquard/api.Cap] -/
def c30 : FC :=
  .seq (.ops [
    ⟨(some 4), none, .mov (.val (.int .i64 0))⟩])
  (.seq (.seq (.ops [
    ⟨(some 6), none, .mov (.tmp 0)⟩,
    ⟨(some 7), none, .len false (.tmp 6)⟩,
    ⟨(some 8), none, .mov (.val (.int .i64 0))⟩])
  (.block 0 (.loop (.seq (.ops [
        ⟨(some 9), none, .bin .lss .other (.tmp 8) (.tmp 7)⟩])
      (.seq (.cond (.tmp 9)
       (.skip)
       (.exit 0))
      (.seq (.block 1 (.seq (.ops [
          ⟨(some 10), none, .mov (.tmp 8)⟩,
          ⟨(some 5), none, .mov (.tmp 10)⟩])
        (.seq (.ops [
          ⟨(some 11), none, .mov (.tmp 1)⟩,
          ⟨(some 12), none, .mov (.tmp 0)⟩,
          ⟨(some 13), none, .mov (.tmp 5)⟩,
          ⟨(some 14), none, .iaddr 2 (.tmp 12) (.tmp 13)⟩,
          ⟨(some 15), none, .load (some 2) (.tmp 14)⟩,
          ⟨(some 16), none, .call (.tmp 11) [(.tmp 15)]⟩])
        (.cond (.tmp 16)
         (.seq (.ops [
            ⟨(some 17), none, .mov (.tmp 5)⟩,
            ⟨(some 4), none, .mov (.tmp 17)⟩])
          (.ret))
         (.skip)))))
      (.ops [
        ⟨(some 18), none, .bin .add .other (.tmp 8) (.val (.int .i64 1))⟩,
        ⟨(some 8), none, .mov (.tmp 18)⟩])))))))
  (.seq (.ops [
    ⟨(some 4), none, .mov (.val (.int .i64 (-1)))⟩])
  (.ret)))
def e30 : FEnt := ⟨19, c30, [.tmp 4]⟩
theorem v30 : Valid Tryd.prog 30 e30 :=
  ⟨Tryd.f30, Tryd.f30.body.getD .skip, Tryd.func30, by kernel_rfl, by kernel_rfl, by kernel_rfl, by kernel_rfl, by kernel_rfl⟩

/-- jacquard/verify.made$1 -/
def c31 : FC :=
  .seq (.ops [
    ⟨(some 2), none, .box 59 (.tmp 0)⟩,
    ⟨(some 3), none, .mov (.val (.bool false))⟩])
  (.seq (.ops [
    ⟨(some 5), none, .faddr 3 (.tmp 1)⟩,
    ⟨(some 6), none, .load none (.tmp 5)⟩,
    ⟨(some 7), none, .len false (.tmp 6)⟩,
    ⟨(some 4), none, .mov (.tmp 7)⟩])
  (.seq (.seq (.ops [
    ⟨(some 8), none, .faddr 0 (.tmp 2)⟩,
    ⟨(some 9), none, .load none (.tmp 8)⟩,
    ⟨(some 10), none, .bin .eql .other (.tmp 9) (.val (.int .i64 1))⟩])
  (.cond (.tmp 10)
   (.ops [
      ⟨(some 11), none, .faddr 1 (.tmp 1)⟩,
      ⟨(some 12), none, .load none (.tmp 11)⟩,
      ⟨(some 4), none, .mov (.tmp 12)⟩])
   (.skip)))
  (.seq (.ops [
    ⟨(some 13), none, .faddr 1 (.tmp 2)⟩,
    ⟨(some 14), none, .load none (.tmp 13)⟩,
    ⟨(some 15), none, .mov (.tmp 4)⟩,
    ⟨(some 16), none, .bin .sub .other (.tmp 15) (.val (.int .i64 1))⟩,
    ⟨(some 17), none, .call (.val (.fn 18 [])) [(.tmp 14), (.val (.int .i64 0)), (.tmp 16)]⟩,
    ⟨(some 18), none, .un .not (.tmp 17)⟩,
    ⟨(some 3), none, .mov (.tmp 18)⟩])
  (.ret))))
def e31 : FEnt := ⟨19, c31, [.tmp 3]⟩
theorem v31 : Valid Tryd.prog 31 e31 :=
  ⟨Tryd.f31, Tryd.f31.body.getD .skip, Tryd.func31, by kernel_rfl, by kernel_rfl, by kernel_rfl, by kernel_rfl, by kernel_rfl⟩

end Go.Proofs.YtlghjfmehfochaaDoor
