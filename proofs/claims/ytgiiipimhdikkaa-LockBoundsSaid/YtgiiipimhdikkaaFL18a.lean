/-
  OWN WORK (an AI agent). Part L18a of a walk by simplification over abstract heaps.
-/
import Derived.Test.YtgiiipimhdikkaaFK
import Derived.Test.YtgiiipimhdikkaaProg
import Derived.KernelRfl
set_option linter.all false
namespace Go.Proofs.Ytgiiipimhdikkaa
open Go.F

/-- jacquard/jacquardlaw18.LockBounds -/
def c3 : FC :=
  .seq (.ops [
    ⟨(some 2), none, .mov (.val (.bool false))⟩])
  (.seq (.seq (.ops [
    ⟨(some 7), none, .mov (.tmp 0)⟩,
    ⟨(some 8), none, .bin .lss .other (.tmp 7) (.val (.int .i64 1020))⟩,
    ⟨(some 9), none, .mov (.tmp 8)⟩,
    ⟨(some 10), some (9, false), .mov (.tmp 0)⟩,
    ⟨(some 11), some (9, false), .bin .gtr .other (.tmp 10) (.val (.int .i64 1030))⟩,
    ⟨(some 12), none, .pick (.tmp 9) (.val (.bool true)) (.tmp 11)⟩])
  (.cond (.tmp 12)
   (.seq (.ops [
      ⟨(some 13), none, .call (.val (.fn 4 [])) []⟩,
      ⟨(some 2), none, .mov (.tmp 13)⟩])
    (.ret))
   (.skip)))
  (.seq (.ops [
    ⟨(some 14), none, .call (.val (.fn 5 [])) []⟩,
    ⟨(some 3), none, .mov (.tmp 14)⟩])
  (.seq (.seq (.ops [
    ⟨(some 15), none, .mov (.tmp 3)⟩,
    ⟨(some 16), none, .bin .eql .pointer (.tmp 15) (.val .nilp)⟩])
  (.cond (.tmp 16)
   (.seq (.ops [
      ⟨(some 2), none, .mov (.val (.bool false))⟩])
    (.ret))
   (.skip)))
  (.seq (.seq (.ops [
    ⟨(some 4), none, .mov (.val (.int .i64 0))⟩])
  (.block 0 (.loop (.seq (.seq (.ops [
        ⟨(some 17), none, .mov (.tmp 4)⟩,
        ⟨(some 18), none, .mov (.tmp 0)⟩,
        ⟨(some 19), none, .bin .lss .other (.tmp 17) (.tmp 18)⟩])
      (.cond (.tmp 19)
       (.skip)
       (.exit 0)))
      (.seq (.block 1 (.seq (.ops [
          ⟨(some 23), none, .mov (.tmp 3)⟩,
          ⟨(some 24), none, .call (.val (.fn 6 [])) [(.tmp 23)]⟩,
          ⟨(some 22), none, .mov (.tmp 24)⟩,
          ⟨(some 25), none, .extract (.tmp 22) 0⟩,
          ⟨(some 26), none, .extract (.tmp 22) 1⟩,
          ⟨(some 5), none, .mov (.tmp 25)⟩,
          ⟨(some 6), none, .mov (.tmp 26)⟩])
        (.seq (.ops [
          ⟨(some 27), none, .mov (.tmp 4)⟩,
          ⟨(some 28), none, .bin .lss .other (.tmp 27) (.val (.int .i64 1024))⟩,
          ⟨(some 29), none, .mov (.tmp 28)⟩,
          ⟨(some 30), some (29, true), .mov (.tmp 5)⟩,
          ⟨(some 31), some (29, true), .mov (.tmp 4)⟩,
          ⟨(some 32), some (29, true), .bin .neq .other (.tmp 30) (.tmp 31)⟩,
          ⟨(some 33), some (29, true), .mov (.tmp 32)⟩,
          ⟨(some 34), some (33, false), .mov (.tmp 6)⟩,
          ⟨(some 35), some (33, false), .call (.val (.fn 7 [])) [(.tmp 34)]⟩,
          ⟨(some 36), some (33, false), .bin .neq .other (.tmp 35) (.val (.int .i64 0))⟩,
          ⟨(some 37), some (29, true), .pick (.tmp 33) (.val (.bool true)) (.tmp 36)⟩,
          ⟨(some 38), none, .pick (.tmp 29) (.tmp 37) (.val (.bool false))⟩,
          ⟨(some 39), none, .mov (.tmp 38)⟩,
          ⟨(some 40), some (39, false), .mov (.tmp 4)⟩,
          ⟨(some 41), some (39, false), .bin .geq .other (.tmp 40) (.val (.int .i64 1024))⟩,
          ⟨(some 42), some (39, false), .mov (.tmp 41)⟩,
          ⟨(some 43), some (42, true), .mov (.tmp 5)⟩,
          ⟨(some 44), some (42, true), .bin .neq .other (.tmp 43) (.val (.int .i64 0))⟩,
          ⟨(some 45), some (42, true), .mov (.tmp 44)⟩,
          ⟨(some 46), some (45, false), .mov (.tmp 6)⟩,
          ⟨(some 47), some (45, false), .call (.val (.fn 7 [])) [(.tmp 46)]⟩,
          ⟨(some 48), some (45, false), .bin .neq .other (.tmp 47) (.val (.int .i64 3))⟩,
          ⟨(some 49), some (42, true), .pick (.tmp 45) (.val (.bool true)) (.tmp 48)⟩,
          ⟨(some 50), some (39, false), .pick (.tmp 42) (.tmp 49) (.val (.bool false))⟩,
          ⟨(some 51), none, .pick (.tmp 39) (.val (.bool true)) (.tmp 50)⟩])
        (.cond (.tmp 51)
         (.seq (.ops [
            ⟨(some 2), none, .mov (.val (.bool false))⟩])
          (.ret))
         (.skip)))))
      (.ops [
        ⟨(some 20), none, .mov (.tmp 4)⟩,
        ⟨(some 21), none, .bin .add .other (.tmp 20) (.val (.int .i64 1))⟩,
        ⟨(some 4), none, .mov (.tmp 21)⟩]))))))
  (.seq (.ops [
    ⟨(some 52), none, .call (.val (.fn 4 [])) []⟩,
    ⟨(some 2), none, .mov (.tmp 52)⟩])
  (.ret))))))
def e3 : FEnt := ⟨53, c3, [.tmp 2]⟩
theorem v3 : Valid Try.prog 3 e3 :=
  ⟨Try.f3, Try.f3.body.getD .skip, Try.func3, by kernel_rfl, by kernel_rfl, by kernel_rfl, by kernel_rfl, by kernel_rfl⟩

/-- jacquard/jacquardlaw18.live -/
def c4 : FC :=
  .seq (.ops [
    ⟨(some 0), none, .mov (.val (.bool false))⟩])
  (.seq (.ops [
    ⟨(some 11), none, .call (.val (.fn 5 [])) []⟩,
    ⟨(some 1), none, .mov (.tmp 11)⟩])
  (.seq (.seq (.ops [
    ⟨(some 12), none, .mov (.tmp 1)⟩,
    ⟨(some 13), none, .bin .eql .pointer (.tmp 12) (.val .nilp)⟩])
  (.cond (.tmp 13)
   (.seq (.ops [
      ⟨(some 0), none, .mov (.val (.bool false))⟩])
    (.ret))
   (.skip)))
  (.seq (.ops [
    ⟨(some 15), none, .mov (.tmp 1)⟩,
    ⟨(some 16), none, .call (.val (.fn 6 [])) [(.tmp 15)]⟩,
    ⟨(some 14), none, .mov (.tmp 16)⟩,
    ⟨(some 17), none, .extract (.tmp 14) 0⟩,
    ⟨(some 18), none, .extract (.tmp 14) 1⟩,
    ⟨(some 2), none, .mov (.tmp 17)⟩,
    ⟨(some 3), none, .mov (.tmp 18)⟩])
  (.seq (.ops [
    ⟨(some 19), none, .mov (.tmp 1)⟩,
    ⟨(some 20), none, .mov (.tmp 2)⟩,
    ⟨(some 21), none, .call (.val (.fn 8 [])) [(.tmp 19), (.tmp 20), (.val (.int .i64 1))]⟩])
  (.seq (.ops [
    ⟨(some 22), none, .mov (.tmp 1)⟩,
    ⟨(some 23), none, .mov (.tmp 2)⟩,
    ⟨(some 24), none, .call (.val (.fn 8 [])) [(.tmp 22), (.tmp 23), (.val (.int .i64 1))]⟩])
  (.seq (.ops [
    ⟨(some 25), none, .mov (.tmp 1)⟩,
    ⟨(some 26), none, .mov (.tmp 2)⟩,
    ⟨(some 27), none, .call (.val (.fn 9 [])) [(.tmp 25), (.tmp 26), (.val (.int .i64 1)), (.val (.int .i64 (-1)))]⟩])
  (.seq (.ops [
    ⟨(some 28), none, .mov (.tmp 1)⟩,
    ⟨(some 29), none, .mov (.tmp 2)⟩,
    ⟨(some 30), none, .call (.val (.fn 8 [])) [(.tmp 28), (.tmp 29), (.val (.int .i64 2))]⟩])
  (.seq (.ops [
    ⟨(some 32), none, .mov (.tmp 1)⟩,
    ⟨(some 33), none, .mov (.tmp 2)⟩,
    ⟨(some 34), none, .call (.val (.fn 10 [])) [(.tmp 32), (.tmp 33), (.val (.int .i64 2)), (.val (.bool false))]⟩,
    ⟨(some 31), none, .mov (.tmp 34)⟩,
    ⟨(some 35), none, .extract (.tmp 31) 0⟩,
    ⟨(some 36), none, .extract (.tmp 31) 1⟩,
    ⟨(some 4), none, .mov (.tmp 35)⟩,
    ⟨(some 5), none, .mov (.tmp 36)⟩])
  (.seq (.ops [
    ⟨(some 37), none, .mov (.tmp 1)⟩,
    ⟨(some 38), none, .call (.val (.fn 11 [])) [(.tmp 37), (.val (.int .i64 1))]⟩,
    ⟨(some 6), none, .mov (.tmp 38)⟩])
  (.seq (.ops [
    ⟨(some 39), none, .mov (.tmp 1)⟩,
    ⟨(some 40), none, .mov (.tmp 2)⟩,
    ⟨(some 41), none, .call (.val (.fn 12 [])) [(.tmp 39), (.tmp 40), (.val (.int .i64 2))]⟩])
  (.seq (.ops [
    ⟨(some 42), none, .mov (.tmp 1)⟩,
    ⟨(some 43), none, .call (.val (.fn 11 [])) [(.tmp 42), (.val (.int .i64 1))]⟩,
    ⟨(some 7), none, .mov (.tmp 43)⟩])
  (.seq (.ops [
    ⟨(some 45), none, .mov (.tmp 1)⟩,
    ⟨(some 46), none, .mov (.tmp 2)⟩,
    ⟨(some 47), none, .call (.val (.fn 13 [])) [(.tmp 45), (.tmp 46)]⟩,
    ⟨(some 44), none, .mov (.tmp 47)⟩,
    ⟨(some 48), none, .extract (.tmp 44) 0⟩,
    ⟨(some 49), none, .extract (.tmp 44) 1⟩,
    ⟨(some 50), none, .extract (.tmp 44) 2⟩,
    ⟨(some 8), none, .mov (.tmp 48)⟩,
    ⟨(some 9), none, .mov (.tmp 49)⟩,
    ⟨(some 10), none, .mov (.tmp 50)⟩])
  (.seq (.ops [
    ⟨(some 51), none, .mov (.tmp 3)⟩,
    ⟨(some 52), none, .call (.val (.fn 7 [])) [(.tmp 51)]⟩,
    ⟨(some 53), none, .mov (.tmp 5)⟩,
    ⟨(some 54), none, .call (.val (.fn 7 [])) [(.tmp 53)]⟩,
    ⟨(some 55), none, .bin .add .other (.tmp 52) (.tmp 54)⟩,
    ⟨(some 56), none, .mov (.tmp 7)⟩,
    ⟨(some 57), none, .call (.val (.fn 7 [])) [(.tmp 56)]⟩,
    ⟨(some 58), none, .bin .add .other (.tmp 55) (.tmp 57)⟩,
    ⟨(some 59), none, .mov (.tmp 10)⟩,
    ⟨(some 60), none, .call (.val (.fn 7 [])) [(.tmp 59)]⟩,
    ⟨(some 61), none, .bin .add .other (.tmp 58) (.tmp 60)⟩,
    ⟨(some 62), none, .bin .eql .other (.tmp 61) (.val (.int .i64 0))⟩,
    ⟨(some 63), none, .mov (.tmp 62)⟩,
    ⟨(some 64), some (63, true), .mov (.tmp 4)⟩,
    ⟨(some 65), some (63, true), .bslice 3 1 [(.int .i64 0)] 1 [(0, 1, (.val (.int .i64 1)))]⟩,
    ⟨(some 66), some (63, true), .call (.val (.fn 14 [])) [(.tmp 64), (.tmp 65)]⟩,
    ⟨(some 67), none, .pick (.tmp 63) (.tmp 66) (.val (.bool false))⟩,
    ⟨(some 68), none, .mov (.tmp 67)⟩,
    ⟨(some 69), some (68, true), .mov (.tmp 6)⟩,
    ⟨(some 70), some (68, true), .call (.val (.fn 7 [])) [(.tmp 69)]⟩,
    ⟨(some 71), some (68, true), .bin .eql .other (.tmp 70) (.val (.int .i64 7))⟩,
    ⟨(some 72), none, .pick (.tmp 68) (.tmp 71) (.val (.bool false))⟩,
    ⟨(some 73), none, .mov (.tmp 72)⟩,
    ⟨(some 74), some (73, true), .mov (.tmp 8)⟩,
    ⟨(some 75), some (73, true), .bin .eql .other (.tmp 74) (.val (.int .i64 1))⟩,
    ⟨(some 76), none, .pick (.tmp 73) (.tmp 75) (.val (.bool false))⟩,
    ⟨(some 77), none, .mov (.tmp 76)⟩,
    ⟨(some 78), some (77, true), .mov (.tmp 9)⟩,
    ⟨(some 79), some (77, true), .bin .eql .other (.tmp 78) (.val (.int .i64 2))⟩,
    ⟨(some 80), none, .pick (.tmp 77) (.tmp 79) (.val (.bool false))⟩,
    ⟨(some 0), none, .mov (.tmp 80)⟩])
  (.ret))))))))))))))
def e4 : FEnt := ⟨81, c4, [.tmp 0]⟩
theorem v4 : Valid Try.prog 4 e4 :=
  ⟨Try.f4, Try.f4.body.getD .skip, Try.func4, by kernel_rfl, by kernel_rfl, by kernel_rfl, by kernel_rfl, by kernel_rfl⟩

/-- jacquard/lock.New -/
def c5 : FC :=
  .seq (.ops [
    ⟨(some 0), none, .mov (.val .nilp)⟩])
  (.seq (.ops [
    ⟨(some 1), none, .build [.nils, .nils, .nils, (.int .i64 0)] []⟩,
    ⟨(some 2), none, .box 42 (.tmp 1)⟩,
    ⟨(some 0), none, .mov (.tmp 2)⟩])
  (.ret))
def e5 : FEnt := ⟨3, c5, [.tmp 0]⟩
theorem v5 : Valid Try.prog 5 e5 :=
  ⟨Try.f5, Try.f5.body.getD .skip, Try.func5, by kernel_rfl, by kernel_rfl, by kernel_rfl, by kernel_rfl, by kernel_rfl⟩

/-- (*jacquard/lock.Locks).Make -/
def c6 : FC :=
  .seq (.ops [
    ⟨(some 2), none, .mov (.val (.int .i64 0))⟩,
    ⟨(some 3), none, .mov (.val (.int .i64 0))⟩])
  (.seq (.block 0 (.seq (.ops [
      ⟨(some 5), none, .mov (.tmp 0)⟩,
      ⟨(some 6), none, .bin .eql .pointer (.tmp 5) (.val .nilp)⟩,
      ⟨(some 4), none, .mov (.tmp 6)⟩])
    (.cond (.tmp 4)
     (.seq (.ops [
        ⟨(some 2), none, .mov (.val (.int .i64 0))⟩,
        ⟨(some 3), none, .mov (.val (.int .i64 5))⟩])
      (.ret))
     (.seq (.ops [
        ⟨(some 8), none, .mov (.tmp 0)⟩,
        ⟨(some 9), none, .nilchk (.tmp 8)⟩,
        ⟨(some 10), none, .faddr 0 (.tmp 9)⟩,
        ⟨(some 11), none, .load none (.tmp 10)⟩,
        ⟨(some 12), none, .len false (.tmp 11)⟩,
        ⟨(some 13), none, .bin .eql .other (.tmp 12) (.val (.int .i64 1024))⟩,
        ⟨(some 7), none, .mov (.tmp 13)⟩])
      (.cond (.tmp 7)
       (.seq (.ops [
          ⟨(some 2), none, .mov (.val (.int .i64 0))⟩,
          ⟨(some 3), none, .mov (.val (.int .i64 3))⟩])
        (.ret))
       (.skip))))))
  (.seq (.ops [
    ⟨(some 14), none, .mov (.tmp 0)⟩,
    ⟨(some 15), none, .mov (.tmp 0)⟩,
    ⟨(some 16), none, .nilchk (.tmp 15)⟩,
    ⟨(some 17), none, .faddr 0 (.tmp 16)⟩,
    ⟨(some 18), none, .load none (.tmp 17)⟩,
    ⟨(some 19), none, .build [(.int .i64 0), (.int .i64 0)] [(0, 1, (.val (.int .i64 (-1)))), (1, 1, (.val (.int .i64 0)))]⟩,
    ⟨(some 20), none, .build [(.int .i64 0), (.int .i64 0)] [(0, 2, (.tmp 19))]⟩,
    ⟨(some 21), none, .box 47 (.tmp 20)⟩,
    ⟨(some 22), none, .bslice 43 1 [.nilp] 1 [(0, 1, (.tmp 21))]⟩,
    ⟨(some 23), none, .append 43 1 8 (.tmp 18) (.tmp 22)⟩,
    ⟨(some 24), none, .nilchk (.tmp 14)⟩,
    ⟨(some 25), none, .faddr 0 (.tmp 24)⟩,
    ⟨none, none, .store 1 (.tmp 25) (.tmp 23)⟩])
  (.seq (.ops [
    ⟨(some 26), none, .mov (.tmp 0)⟩,
    ⟨(some 27), none, .nilchk (.tmp 26)⟩,
    ⟨(some 28), none, .faddr 0 (.tmp 27)⟩,
    ⟨(some 29), none, .load none (.tmp 28)⟩,
    ⟨(some 30), none, .len false (.tmp 29)⟩,
    ⟨(some 31), none, .bin .sub .other (.tmp 30) (.val (.int .i64 1))⟩,
    ⟨(some 2), none, .mov (.tmp 31)⟩,
    ⟨(some 3), none, .mov (.val (.int .i64 0))⟩])
  (.ret))))
def e6 : FEnt := ⟨32, c6, [.tmp 2, .tmp 3]⟩
theorem v6 : Valid Try.prog 6 e6 :=
  ⟨Try.f6, Try.f6.body.getD .skip, Try.func6, by kernel_rfl, by kernel_rfl, by kernel_rfl, by kernel_rfl, by kernel_rfl⟩

/-- jacquard/jacquardlaw18.num -/
def c7 : FC :=
  .seq (.ops [
    ⟨(some 2), none, .mov (.val (.int .i64 0))⟩])
  (.seq (.ops [
    ⟨(some 3), none, .mov (.tmp 0)⟩,
    ⟨(some 2), none, .mov (.tmp 3)⟩])
  (.ret))
def e7 : FEnt := ⟨4, c7, [.tmp 2]⟩
theorem v7 : Valid Try.prog 7 e7 :=
  ⟨Try.f7, Try.f7.body.getD .skip, Try.func7, by kernel_rfl, by kernel_rfl, by kernel_rfl, by kernel_rfl, by kernel_rfl⟩

/-- (*jacquard/lock.Locks).Lock -/
def c8 : FC :=
  .seq (.ops [
    ⟨(some 6), none, .mov (.val (.int .i64 0))⟩])
  (.seq (.seq (.ops [
    ⟨(some 8), none, .mov (.tmp 0)⟩,
    ⟨(some 9), none, .mov (.tmp 1)⟩,
    ⟨(some 10), none, .mov (.tmp 2)⟩,
    ⟨(some 11), none, .call (.val (.fn 15 [])) [(.tmp 8), (.tmp 9), (.tmp 10)]⟩,
    ⟨(some 7), none, .mov (.tmp 11)⟩])
  (.seq (.ops [
    ⟨(some 12), none, .mov (.tmp 7)⟩,
    ⟨(some 13), none, .bin .neq .other (.tmp 12) (.val (.int .i64 0))⟩])
  (.cond (.tmp 13)
   (.seq (.ops [
      ⟨(some 14), none, .mov (.tmp 7)⟩,
      ⟨(some 6), none, .mov (.tmp 14)⟩])
    (.ret))
   (.skip))))
  (.seq (.block 0 (.seq (.seq (.ops [
      ⟨(some 16), none, .mov (.tmp 0)⟩,
      ⟨(some 17), none, .mov (.tmp 1)⟩,
      ⟨(some 18), none, .mov (.tmp 2)⟩,
      ⟨(some 19), none, .call (.val (.fn 16 [])) [(.tmp 16), (.tmp 17), (.tmp 18)]⟩,
      ⟨(some 20), none, .un .not (.tmp 19)⟩,
      ⟨(some 15), none, .mov (.tmp 20)⟩])
    (.cond (.tmp 15)
     (.skip)
     (.seq (.ops [
        ⟨(some 21), none, .mov (.tmp 0)⟩,
        ⟨(some 22), none, .nilchk (.tmp 21)⟩,
        ⟨(some 23), none, .faddr 1 (.tmp 22)⟩,
        ⟨(some 24), none, .load none (.tmp 23)⟩,
        ⟨(some 25), none, .mov (.tmp 2)⟩,
        ⟨(some 26), none, .call (.val (.fn 17 [])) [(.tmp 24), (.tmp 25)]⟩,
        ⟨(some 27), none, .bin .geq .other (.tmp 26) (.val (.int .i64 0))⟩,
        ⟨(some 15), none, .mov (.tmp 27)⟩])
      (.cond (.tmp 15)
       (.skip)
       (.ops [
          ⟨(some 28), none, .mov (.tmp 0)⟩,
          ⟨(some 29), none, .nilchk (.tmp 28)⟩,
          ⟨(some 30), none, .faddr 2 (.tmp 29)⟩,
          ⟨(some 31), none, .load none (.tmp 30)⟩,
          ⟨(some 32), none, .mov (.tmp 2)⟩,
          ⟨(some 33), none, .call (.val (.fn 17 [])) [(.tmp 31), (.tmp 32)]⟩,
          ⟨(some 34), none, .bin .geq .other (.tmp 33) (.val (.int .i64 0))⟩,
          ⟨(some 15), none, .mov (.tmp 34)⟩])))))
    (.cond (.tmp 15)
     (.seq (.ops [
        ⟨(some 6), none, .mov (.val (.int .i64 7))⟩])
      (.ret))
     (.seq (.ops [
        ⟨(some 36), none, .mov (.tmp 0)⟩,
        ⟨(some 37), none, .nilchk (.tmp 36)⟩,
        ⟨(some 38), none, .faddr 0 (.tmp 37)⟩,
        ⟨(some 39), none, .load none (.tmp 38)⟩,
        ⟨(some 40), none, .mov (.tmp 1)⟩,
        ⟨(some 41), none, .iaddr 1 (.tmp 39) (.tmp 40)⟩,
        ⟨(some 42), none, .load none (.tmp 41)⟩,
        ⟨(some 43), none, .nilchk (.tmp 42)⟩,
        ⟨(some 44), none, .faddr 0 (.tmp 43)⟩,
        ⟨(some 45), none, .faddr 1 (.tmp 44)⟩,
        ⟨(some 46), none, .load none (.tmp 45)⟩,
        ⟨(some 47), none, .bin .eql .other (.tmp 46) (.val (.int .i64 1099511627776))⟩,
        ⟨(some 35), none, .mov (.tmp 47)⟩])
      (.cond (.tmp 35)
       (.seq (.ops [
          ⟨(some 6), none, .mov (.val (.int .i64 3))⟩])
        (.ret))
       (.skip))))))
  (.seq (.draw (.ops [
    ⟨(some 48), none, .mov (.tmp 0)⟩,
    ⟨(some 49), none, .nilchk (.tmp 48)⟩,
    ⟨(some 50), none, .faddr 0 (.tmp 49)⟩,
    ⟨(some 51), none, .load none (.tmp 50)⟩,
    ⟨(some 52), none, .mov (.tmp 1)⟩,
    ⟨(some 53), none, .iaddr 1 (.tmp 51) (.tmp 52)⟩,
    ⟨(some 54), none, .load none (.tmp 53)⟩,
    ⟨(some 55), none, .mov (.tmp 2)⟩,
    ⟨(some 56), none, .mov (.tmp 0)⟩,
    ⟨(some 57), none, .nilchk (.tmp 56)⟩,
    ⟨(some 58), none, .faddr 0 (.tmp 57)⟩,
    ⟨(some 59), none, .load none (.tmp 58)⟩,
    ⟨(some 60), none, .mov (.tmp 1)⟩,
    ⟨(some 61), none, .iaddr 1 (.tmp 59) (.tmp 60)⟩,
    ⟨(some 62), none, .load none (.tmp 61)⟩,
    ⟨(some 63), none, .nilchk (.tmp 62)⟩,
    ⟨(some 64), none, .faddr 0 (.tmp 63)⟩,
    ⟨(some 65), none, .faddr 1 (.tmp 64)⟩,
    ⟨(some 66), none, .load none (.tmp 65)⟩,
    ⟨(some 67), none, .bin .add .other (.tmp 66) (.val (.int .i64 1))⟩,
    ⟨(some 68), none, .build [(.int .i64 0), (.int .i64 0)] [(0, 1, (.tmp 55)), (1, 1, (.tmp 67))]⟩,
    ⟨(some 69), none, .nilchk (.tmp 54)⟩,
    ⟨(some 70), none, .faddr 0 (.tmp 69)⟩,
    ⟨none, none, .store 2 (.tmp 70) (.tmp 68)⟩] (.done)))
  (.seq (.ops [
    ⟨(some 6), none, .mov (.val (.int .i64 0))⟩])
  (.ret)))))
def e8 : FEnt := ⟨71, c8, [.tmp 6]⟩
theorem v8 : Valid Try.prog 8 e8 :=
  ⟨Try.f8, Try.f8.body.getD .skip, Try.func8, by kernel_rfl, by kernel_rfl, by kernel_rfl, by kernel_rfl, by kernel_rfl⟩

/-- (*jacquard/lock.Locks).Wait -/
def c9 : FC :=
  .seq (.ops [
    ⟨(some 8), none, .mov (.val (.int .i64 0))⟩])
  (.seq (.seq (.ops [
    ⟨(some 11), none, .mov (.tmp 0)⟩,
    ⟨(some 12), none, .mov (.tmp 1)⟩,
    ⟨(some 13), none, .mov (.tmp 2)⟩,
    ⟨(some 14), none, .call (.val (.fn 15 [])) [(.tmp 11), (.tmp 12), (.tmp 13)]⟩,
    ⟨(some 9), none, .mov (.tmp 14)⟩])
  (.seq (.ops [
    ⟨(some 15), none, .mov (.tmp 9)⟩,
    ⟨(some 16), none, .bin .neq .other (.tmp 15) (.val (.int .i64 0))⟩])
  (.cond (.tmp 16)
   (.seq (.ops [
      ⟨(some 17), none, .mov (.tmp 9)⟩,
      ⟨(some 8), none, .mov (.tmp 17)⟩])
    (.ret))
   (.skip))))
  (.seq (.seq (.ops [
    ⟨(some 18), none, .mov (.tmp 3)⟩,
    ⟨(some 19), none, .bin .lss .other (.tmp 18) (.val (.int .i64 (-1)))⟩])
  (.cond (.tmp 19)
   (.seq (.ops [
      ⟨(some 8), none, .mov (.val (.int .i64 1))⟩])
    (.ret))
   (.skip)))
  (.seq (.seq (.ops [
    ⟨(some 20), none, .mov (.tmp 0)⟩,
    ⟨(some 21), none, .mov (.tmp 1)⟩,
    ⟨(some 22), none, .mov (.tmp 2)⟩,
    ⟨(some 23), none, .call (.val (.fn 18 [])) [(.tmp 20), (.tmp 21), (.tmp 22)]⟩,
    ⟨(some 10), none, .mov (.tmp 23)⟩])
  (.seq (.ops [
    ⟨(some 24), none, .mov (.tmp 10)⟩,
    ⟨(some 25), none, .bin .neq .other (.tmp 24) (.val (.int .i64 0))⟩])
  (.cond (.tmp 25)
   (.seq (.ops [
      ⟨(some 26), none, .mov (.tmp 10)⟩,
      ⟨(some 8), none, .mov (.tmp 26)⟩])
    (.ret))
   (.skip))))
  (.seq (.draw (.ops [
    ⟨(some 27), none, .mov (.tmp 0)⟩,
    ⟨(some 28), none, .mov (.tmp 0)⟩,
    ⟨(some 29), none, .nilchk (.tmp 28)⟩,
    ⟨(some 30), none, .faddr 1 (.tmp 29)⟩,
    ⟨(some 31), none, .load none (.tmp 30)⟩,
    ⟨(some 32), none, .mov (.tmp 0)⟩,
    ⟨(some 33), none, .nilchk (.tmp 32)⟩,
    ⟨(some 34), none, .faddr 0 (.tmp 33)⟩,
    ⟨(some 35), none, .load none (.tmp 34)⟩,
    ⟨(some 36), none, .mov (.tmp 1)⟩,
    ⟨(some 37), none, .iaddr 1 (.tmp 35) (.tmp 36)⟩,
    ⟨(some 38), none, .load none (.tmp 37)⟩,
    ⟨(some 39), none, .nilchk (.tmp 38)⟩,
    ⟨(some 40), none, .faddr 0 (.tmp 39)⟩,
    ⟨(some 41), none, .load (some 2) (.tmp 40)⟩,
    ⟨(some 42), none, .mov (.tmp 1)⟩,
    ⟨(some 43), none, .mov (.tmp 3)⟩,
    ⟨(some 44), none, .mov (.tmp 0)⟩,
    ⟨(some 45), none, .nilchk (.tmp 44)⟩,
    ⟨(some 46), none, .faddr 3 (.tmp 45)⟩,
    ⟨(some 47), none, .load none (.tmp 46)⟩,
    ⟨(some 48), none, .build [(.int .i64 0), (.int .i64 0), (.int .i64 0), (.int .i64 0), (.int .i64 0), (.bool false)] [(0, 2, (.tmp 41)), (2, 1, (.tmp 42)), (3, 1, (.tmp 43)), (4, 1, (.tmp 47))]⟩,
    ⟨(some 49), none, .bslice 51 6 [(.int .i64 0), (.int .i64 0), (.int .i64 0), (.int .i64 0), (.int .i64 0), (.bool false)] 1 [(0, 6, (.tmp 48))]⟩,
    ⟨(some 50), none, .append 51 6 48 (.tmp 31) (.tmp 49)⟩,
    ⟨(some 51), none, .nilchk (.tmp 27)⟩,
    ⟨(some 52), none, .faddr 1 (.tmp 51)⟩,
    ⟨none, none, .store 1 (.tmp 52) (.tmp 50)⟩] (.done)))
  (.seq (.ops [
    ⟨(some 53), none, .mov (.tmp 0)⟩,
    ⟨(some 54), none, .nilchk (.tmp 53)⟩,
    ⟨(some 55), none, .faddr 3 (.tmp 54)⟩,
    ⟨(some 56), none, .load none (.tmp 55)⟩,
    ⟨(some 57), none, .bin .add .other (.tmp 56) (.val (.int .i64 1))⟩,
    ⟨(some 58), none, .nilchk (.tmp 53)⟩,
    ⟨(some 59), none, .faddr 3 (.tmp 58)⟩,
    ⟨none, none, .store 1 (.tmp 59) (.tmp 57)⟩])
  (.seq (.ops [
    ⟨(some 60), none, .mov (.tmp 0)⟩,
    ⟨(some 61), none, .nilchk (.tmp 60)⟩,
    ⟨(some 62), none, .faddr 0 (.tmp 61)⟩,
    ⟨(some 63), none, .load none (.tmp 62)⟩,
    ⟨(some 64), none, .mov (.tmp 1)⟩,
    ⟨(some 65), none, .iaddr 1 (.tmp 63) (.tmp 64)⟩,
    ⟨(some 66), none, .load none (.tmp 65)⟩,
    ⟨(some 67), none, .build [(.int .i64 0), (.int .i64 0)] [(0, 1, (.val (.int .i64 (-1)))), (1, 1, (.val (.int .i64 0)))]⟩,
    ⟨(some 68), none, .nilchk (.tmp 66)⟩,
    ⟨(some 69), none, .faddr 0 (.tmp 68)⟩,
    ⟨none, none, .store 2 (.tmp 69) (.tmp 67)⟩])
  (.seq (.ops [
    ⟨(some 8), none, .mov (.val (.int .i64 0))⟩])
  (.ret))))))))
def e9 : FEnt := ⟨70, c9, [.tmp 8]⟩
theorem v9 : Valid Try.prog 9 e9 :=
  ⟨Try.f9, Try.f9.body.getD .skip, Try.func9, by kernel_rfl, by kernel_rfl, by kernel_rfl, by kernel_rfl, by kernel_rfl⟩

/-- (*jacquard/lock.Locks).Notify -/
def c10 : FC :=
  .seq (.ops [
    ⟨(some 5), none, .box 3 (.tmp 1)⟩,
    ⟨(some 7), none, .box 4 (.tmp 3)⟩,
    ⟨(some 8), none, .mov (.val .nils)⟩,
    ⟨(some 9), none, .mov (.val (.int .i64 0))⟩])
  (.seq (.seq (.ops [
    ⟨(some 14), none, .mov (.tmp 0)⟩,
    ⟨(some 15), none, .load none (.tmp 5)⟩,
    ⟨(some 16), none, .mov (.tmp 2)⟩,
    ⟨(some 17), none, .call (.val (.fn 18 [])) [(.tmp 14), (.tmp 15), (.tmp 16)]⟩,
    ⟨(some 10), none, .mov (.tmp 17)⟩])
  (.seq (.ops [
    ⟨(some 18), none, .mov (.tmp 10)⟩,
    ⟨(some 19), none, .bin .neq .other (.tmp 18) (.val (.int .i64 0))⟩])
  (.cond (.tmp 19)
   (.seq (.ops [
      ⟨(some 20), none, .mov (.tmp 10)⟩,
      ⟨(some 8), none, .mov (.val .nils)⟩,
      ⟨(some 9), none, .mov (.tmp 20)⟩])
    (.ret))
   (.skip))))
  (.seq (.ops [
    ⟨(some 11), none, .alloc 3 [(.int .i64 0)]⟩,
    ⟨none, none, .store 1 (.tmp 11) (.val (.int .i64 0))⟩])
  (.seq (.ops [
    ⟨(some 22), none, .mov (.tmp 0)⟩,
    ⟨(some 23), none, .nilchk (.tmp 22)⟩,
    ⟨(some 24), none, .faddr 1 (.tmp 23)⟩,
    ⟨(some 25), none, .load none (.tmp 24)⟩,
    ⟨(some 26), none, .mkfn 20 [(.tmp 5), (.tmp 11), (.tmp 7)]⟩,
    ⟨(some 27), none, .call (.val (.fn 19 [])) [(.tmp 25), (.tmp 26)]⟩,
    ⟨(some 21), none, .mov (.tmp 27)⟩,
    ⟨(some 28), none, .extract (.tmp 21) 0⟩,
    ⟨(some 29), none, .extract (.tmp 21) 1⟩,
    ⟨(some 12), none, .mov (.tmp 28)⟩,
    ⟨(some 13), none, .mov (.tmp 29)⟩])
  (.seq (.ops [
    ⟨(some 30), none, .mov (.tmp 0)⟩,
    ⟨(some 31), none, .mov (.tmp 13)⟩,
    ⟨(some 32), none, .nilchk (.tmp 30)⟩,
    ⟨(some 33), none, .faddr 1 (.tmp 32)⟩,
    ⟨none, none, .store 1 (.tmp 33) (.tmp 31)⟩])
  (.seq (.ops [
    ⟨(some 34), none, .mov (.tmp 0)⟩,
    ⟨(some 35), none, .mov (.tmp 12)⟩,
    ⟨(some 36), none, .call (.val (.fn 21 [])) [(.tmp 34), (.tmp 35), (.val (.bool true))]⟩,
    ⟨(some 8), none, .mov (.tmp 36)⟩,
    ⟨(some 9), none, .mov (.val (.int .i64 0))⟩])
  (.ret))))))
def e10 : FEnt := ⟨37, c10, [.tmp 8, .tmp 9]⟩
theorem v10 : Valid Try.prog 10 e10 :=
  ⟨Try.f10, Try.f10.body.getD .skip, Try.func10, by kernel_rfl, by kernel_rfl, by kernel_rfl, by kernel_rfl, by kernel_rfl⟩

/-- (*jacquard/lock.Locks).Relock -/
def c11 : FC :=
  .seq (.ops [
    ⟨(some 4), none, .mov (.val (.int .i64 0))⟩])
  (.seq (.block 0 (.seq (.ops [
      ⟨(some 7), none, .mov (.tmp 0)⟩,
      ⟨(some 8), none, .bin .eql .pointer (.tmp 7) (.val .nilp)⟩,
      ⟨(some 6), none, .mov (.tmp 8)⟩])
    (.cond (.tmp 6)
     (.seq (.ops [
        ⟨(some 4), none, .mov (.val (.int .i64 5))⟩])
      (.ret))
     (.seq (.ops [
        ⟨(some 10), none, .mov (.tmp 1)⟩,
        ⟨(some 11), none, .bin .lss .other (.tmp 10) (.val (.int .i64 0))⟩,
        ⟨(some 12), none, .mov (.tmp 11)⟩,
        ⟨(some 13), some (12, false), .mov (.tmp 1)⟩,
        ⟨(some 14), some (12, false), .bin .geq .other (.tmp 13) (.val (.int .i64 256))⟩,
        ⟨(some 15), none, .pick (.tmp 12) (.val (.bool true)) (.tmp 14)⟩,
        ⟨(some 9), none, .mov (.tmp 15)⟩])
      (.cond (.tmp 9)
       (.seq (.ops [
          ⟨(some 4), none, .mov (.val (.int .i64 1))⟩])
        (.ret))
       (.skip))))))
  (.seq (.ops [
    ⟨(some 16), none, .mov (.tmp 0)⟩,
    ⟨(some 17), none, .nilchk (.tmp 16)⟩,
    ⟨(some 18), none, .faddr 2 (.tmp 17)⟩,
    ⟨(some 19), none, .load none (.tmp 18)⟩,
    ⟨(some 20), none, .mov (.tmp 1)⟩,
    ⟨(some 21), none, .call (.val (.fn 17 [])) [(.tmp 19), (.tmp 20)]⟩,
    ⟨(some 5), none, .mov (.tmp 21)⟩])
  (.seq (.seq (.ops [
    ⟨(some 22), none, .mov (.tmp 5)⟩,
    ⟨(some 23), none, .bin .lss .other (.tmp 22) (.val (.int .i64 0))⟩,
    ⟨(some 24), none, .mov (.tmp 23)⟩,
    ⟨(some 25), some (24, false), .mov (.tmp 0)⟩,
    ⟨(some 26), some (24, false), .mov (.tmp 0)⟩,
    ⟨(some 27), some (24, false), .nilchk (.tmp 26)⟩,
    ⟨(some 28), some (24, false), .faddr 2 (.tmp 27)⟩,
    ⟨(some 29), some (24, false), .load none (.tmp 28)⟩,
    ⟨(some 30), some (24, false), .mov (.tmp 5)⟩,
    ⟨(some 31), some (24, false), .iaddr 6 (.tmp 29) (.tmp 30)⟩,
    ⟨(some 32), some (24, false), .faddr 2 (.tmp 31)⟩,
    ⟨(some 33), some (24, false), .load none (.tmp 32)⟩,
    ⟨(some 34), some (24, false), .mov (.tmp 1)⟩,
    ⟨(some 35), some (24, false), .call (.val (.fn 16 [])) [(.tmp 25), (.tmp 33), (.tmp 34)]⟩,
    ⟨(some 36), some (24, false), .un .not (.tmp 35)⟩,
    ⟨(some 37), none, .pick (.tmp 24) (.val (.bool true)) (.tmp 36)⟩])
  (.cond (.tmp 37)
   (.seq (.ops [
      ⟨(some 4), none, .mov (.val (.int .i64 7))⟩])
    (.ret))
   (.skip)))
  (.seq (.draw (.ops [
    ⟨(some 38), none, .mov (.tmp 0)⟩,
    ⟨(some 39), none, .nilchk (.tmp 38)⟩,
    ⟨(some 40), none, .faddr 0 (.tmp 39)⟩,
    ⟨(some 41), none, .load none (.tmp 40)⟩,
    ⟨(some 42), none, .mov (.tmp 0)⟩,
    ⟨(some 43), none, .nilchk (.tmp 42)⟩,
    ⟨(some 44), none, .faddr 2 (.tmp 43)⟩,
    ⟨(some 45), none, .load none (.tmp 44)⟩,
    ⟨(some 46), none, .mov (.tmp 5)⟩,
    ⟨(some 47), none, .iaddr 6 (.tmp 45) (.tmp 46)⟩,
    ⟨(some 48), none, .faddr 2 (.tmp 47)⟩,
    ⟨(some 49), none, .load none (.tmp 48)⟩,
    ⟨(some 50), none, .iaddr 1 (.tmp 41) (.tmp 49)⟩,
    ⟨(some 51), none, .load none (.tmp 50)⟩,
    ⟨(some 52), none, .mov (.tmp 0)⟩,
    ⟨(some 53), none, .nilchk (.tmp 52)⟩,
    ⟨(some 54), none, .faddr 2 (.tmp 53)⟩,
    ⟨(some 55), none, .load none (.tmp 54)⟩,
    ⟨(some 56), none, .mov (.tmp 5)⟩,
    ⟨(some 57), none, .iaddr 6 (.tmp 55) (.tmp 56)⟩,
    ⟨(some 58), none, .faddr 0 (.tmp 57)⟩,
    ⟨(some 59), none, .load (some 2) (.tmp 58)⟩,
    ⟨(some 60), none, .nilchk (.tmp 51)⟩,
    ⟨(some 61), none, .faddr 0 (.tmp 60)⟩,
    ⟨none, none, .store 2 (.tmp 61) (.tmp 59)⟩] (.done)))
  (.seq (.ops [
    ⟨(some 62), none, .mov (.tmp 0)⟩,
    ⟨(some 63), none, .mov (.tmp 0)⟩,
    ⟨(some 64), none, .nilchk (.tmp 63)⟩,
    ⟨(some 65), none, .faddr 2 (.tmp 64)⟩,
    ⟨(some 66), none, .load none (.tmp 65)⟩,
    ⟨(some 67), none, .mov (.tmp 5)⟩,
    ⟨(some 68), none, .mov (.tmp 5)⟩,
    ⟨(some 69), none, .bin .add .other (.tmp 68) (.val (.int .i64 1))⟩,
    ⟨(some 70), none, .call (.val (.fn 22 [])) [(.tmp 66), (.tmp 67), (.tmp 69)]⟩,
    ⟨(some 71), none, .nilchk (.tmp 62)⟩,
    ⟨(some 72), none, .faddr 2 (.tmp 71)⟩,
    ⟨none, none, .store 1 (.tmp 72) (.tmp 70)⟩])
  (.seq (.ops [
    ⟨(some 4), none, .mov (.val (.int .i64 0))⟩])
  (.ret)))))))
def e11 : FEnt := ⟨73, c11, [.tmp 4]⟩
theorem v11 : Valid Try.prog 11 e11 :=
  ⟨Try.f11, Try.f11.body.getD .skip, Try.func11, by kernel_rfl, by kernel_rfl, by kernel_rfl, by kernel_rfl, by kernel_rfl⟩

/-- (*jacquard/lock.Locks).Unlock -/
def c12 : FC :=
  .seq (.ops [
    ⟨(some 6), none, .mov (.val (.int .i64 0))⟩])
  (.seq (.seq (.ops [
    ⟨(some 8), none, .mov (.tmp 0)⟩,
    ⟨(some 9), none, .mov (.tmp 1)⟩,
    ⟨(some 10), none, .mov (.tmp 2)⟩,
    ⟨(some 11), none, .call (.val (.fn 18 [])) [(.tmp 8), (.tmp 9), (.tmp 10)]⟩,
    ⟨(some 7), none, .mov (.tmp 11)⟩])
  (.seq (.ops [
    ⟨(some 12), none, .mov (.tmp 7)⟩,
    ⟨(some 13), none, .bin .neq .other (.tmp 12) (.val (.int .i64 0))⟩])
  (.cond (.tmp 13)
   (.seq (.ops [
      ⟨(some 14), none, .mov (.tmp 7)⟩,
      ⟨(some 6), none, .mov (.tmp 14)⟩])
    (.ret))
   (.skip))))
  (.seq (.ops [
    ⟨(some 15), none, .mov (.tmp 0)⟩,
    ⟨(some 16), none, .nilchk (.tmp 15)⟩,
    ⟨(some 17), none, .faddr 0 (.tmp 16)⟩,
    ⟨(some 18), none, .load none (.tmp 17)⟩,
    ⟨(some 19), none, .mov (.tmp 1)⟩,
    ⟨(some 20), none, .iaddr 1 (.tmp 18) (.tmp 19)⟩,
    ⟨(some 21), none, .load none (.tmp 20)⟩,
    ⟨(some 22), none, .nilchk (.tmp 21)⟩,
    ⟨(some 23), none, .faddr 0 (.tmp 22)⟩,
    ⟨(some 24), none, .faddr 1 (.tmp 23)⟩,
    ⟨(some 25), none, .load none (.tmp 24)⟩,
    ⟨(some 26), none, .bin .sub .other (.tmp 25) (.val (.int .i64 1))⟩,
    ⟨(some 27), none, .nilchk (.tmp 21)⟩,
    ⟨(some 28), none, .faddr 0 (.tmp 27)⟩,
    ⟨(some 29), none, .faddr 1 (.tmp 28)⟩,
    ⟨none, none, .store 1 (.tmp 29) (.tmp 26)⟩])
  (.seq (.seq (.ops [
    ⟨(some 30), none, .mov (.tmp 0)⟩,
    ⟨(some 31), none, .nilchk (.tmp 30)⟩,
    ⟨(some 32), none, .faddr 0 (.tmp 31)⟩,
    ⟨(some 33), none, .load none (.tmp 32)⟩,
    ⟨(some 34), none, .mov (.tmp 1)⟩,
    ⟨(some 35), none, .iaddr 1 (.tmp 33) (.tmp 34)⟩,
    ⟨(some 36), none, .load none (.tmp 35)⟩,
    ⟨(some 37), none, .nilchk (.tmp 36)⟩,
    ⟨(some 38), none, .faddr 0 (.tmp 37)⟩,
    ⟨(some 39), none, .faddr 1 (.tmp 38)⟩,
    ⟨(some 40), none, .load none (.tmp 39)⟩,
    ⟨(some 41), none, .bin .eql .other (.tmp 40) (.val (.int .i64 0))⟩])
  (.cond (.tmp 41)
   (.ops [
      ⟨(some 42), none, .mov (.tmp 0)⟩,
      ⟨(some 43), none, .nilchk (.tmp 42)⟩,
      ⟨(some 44), none, .faddr 0 (.tmp 43)⟩,
      ⟨(some 45), none, .load none (.tmp 44)⟩,
      ⟨(some 46), none, .mov (.tmp 1)⟩,
      ⟨(some 47), none, .iaddr 1 (.tmp 45) (.tmp 46)⟩,
      ⟨(some 48), none, .load none (.tmp 47)⟩,
      ⟨(some 49), none, .nilchk (.tmp 48)⟩,
      ⟨(some 50), none, .faddr 0 (.tmp 49)⟩,
      ⟨(some 51), none, .faddr 0 (.tmp 50)⟩,
      ⟨none, none, .store 1 (.tmp 51) (.val (.int .i64 (-1)))⟩])
   (.skip)))
  (.seq (.ops [
    ⟨(some 6), none, .mov (.val (.int .i64 0))⟩])
  (.ret)))))
def e12 : FEnt := ⟨52, c12, [.tmp 6]⟩
theorem v12 : Valid Try.prog 12 e12 :=
  ⟨Try.f12, Try.f12.body.getD .skip, Try.func12, by kernel_rfl, by kernel_rfl, by kernel_rfl, by kernel_rfl, by kernel_rfl⟩

/-- (*jacquard/lock.Locks).Owner -/
def c13 : FC :=
  .seq (.ops [
    ⟨(some 4), none, .mov (.val (.int .i64 0))⟩,
    ⟨(some 5), none, .mov (.val (.int .i64 0))⟩,
    ⟨(some 6), none, .mov (.val (.int .i64 0))⟩])
  (.seq (.seq (.ops [
    ⟨(some 8), none, .mov (.tmp 0)⟩,
    ⟨(some 9), none, .mov (.tmp 1)⟩,
    ⟨(some 10), none, .call (.val (.fn 15 [])) [(.tmp 8), (.tmp 9), (.val (.int .i64 0))]⟩,
    ⟨(some 7), none, .mov (.tmp 10)⟩])
  (.seq (.ops [
    ⟨(some 11), none, .mov (.tmp 7)⟩,
    ⟨(some 12), none, .bin .neq .other (.tmp 11) (.val (.int .i64 0))⟩])
  (.cond (.tmp 12)
   (.seq (.ops [
      ⟨(some 13), none, .mov (.tmp 7)⟩,
      ⟨(some 4), none, .mov (.val (.int .i64 0))⟩,
      ⟨(some 5), none, .mov (.val (.int .i64 0))⟩,
      ⟨(some 6), none, .mov (.tmp 13)⟩])
    (.ret))
   (.skip))))
  (.seq (.draw (.ops [
    ⟨(some 14), none, .mov (.tmp 0)⟩,
    ⟨(some 15), none, .nilchk (.tmp 14)⟩,
    ⟨(some 16), none, .faddr 0 (.tmp 15)⟩,
    ⟨(some 17), none, .load none (.tmp 16)⟩,
    ⟨(some 18), none, .mov (.tmp 1)⟩,
    ⟨(some 19), none, .iaddr 1 (.tmp 17) (.tmp 18)⟩,
    ⟨(some 20), none, .load none (.tmp 19)⟩,
    ⟨(some 21), none, .nilchk (.tmp 20)⟩,
    ⟨(some 22), none, .faddr 0 (.tmp 21)⟩,
    ⟨(some 23), none, .faddr 0 (.tmp 22)⟩,
    ⟨(some 24), none, .load none (.tmp 23)⟩,
    ⟨(some 25), none, .mov (.tmp 0)⟩,
    ⟨(some 26), none, .nilchk (.tmp 25)⟩,
    ⟨(some 27), none, .faddr 0 (.tmp 26)⟩,
    ⟨(some 28), none, .load none (.tmp 27)⟩,
    ⟨(some 29), none, .mov (.tmp 1)⟩,
    ⟨(some 30), none, .iaddr 1 (.tmp 28) (.tmp 29)⟩,
    ⟨(some 31), none, .load none (.tmp 30)⟩,
    ⟨(some 32), none, .nilchk (.tmp 31)⟩,
    ⟨(some 33), none, .faddr 0 (.tmp 32)⟩,
    ⟨(some 34), none, .faddr 1 (.tmp 33)⟩,
    ⟨(some 35), none, .load none (.tmp 34)⟩,
    ⟨(some 4), none, .mov (.tmp 24)⟩,
    ⟨(some 5), none, .mov (.tmp 35)⟩,
    ⟨(some 6), none, .mov (.val (.int .i64 0))⟩] (.done)))
  (.ret)))
def e13 : FEnt := ⟨36, c13, [.tmp 4, .tmp 5, .tmp 6]⟩
theorem v13 : Valid Try.prog 13 e13 :=
  ⟨Try.f13, Try.f13.body.getD .skip, Try.func13, by kernel_rfl, by kernel_rfl, by kernel_rfl, by kernel_rfl, by kernel_rfl⟩

/-- jacquard/jacquardref14.SameInts -/
def c14 : FC :=
  .seq (.ops [
    ⟨(some 4), none, .mov (.val (.bool false))⟩])
  (.seq (.seq (.ops [
    ⟨(some 6), none, .mov (.tmp 0)⟩,
    ⟨(some 7), none, .len false (.tmp 6)⟩,
    ⟨(some 8), none, .mov (.tmp 1)⟩,
    ⟨(some 9), none, .len false (.tmp 8)⟩,
    ⟨(some 10), none, .bin .neq .other (.tmp 7) (.tmp 9)⟩])
  (.cond (.tmp 10)
   (.seq (.ops [
      ⟨(some 4), none, .mov (.val (.bool false))⟩])
    (.ret))
   (.skip)))
  (.seq (.seq (.ops [
    ⟨(some 5), none, .mov (.val (.int .i64 0))⟩])
  (.block 0 (.loop (.seq (.seq (.ops [
        ⟨(some 11), none, .mov (.tmp 5)⟩,
        ⟨(some 12), none, .mov (.tmp 0)⟩,
        ⟨(some 13), none, .len false (.tmp 12)⟩,
        ⟨(some 14), none, .bin .lss .other (.tmp 11) (.tmp 13)⟩])
      (.cond (.tmp 14)
       (.skip)
       (.exit 0)))
      (.seq (.block 1 (.seq (.draw (.ops [
          ⟨(some 17), none, .mov (.tmp 0)⟩,
          ⟨(some 18), none, .mov (.tmp 5)⟩,
          ⟨(some 19), none, .iaddr 1 (.tmp 17) (.tmp 18)⟩,
          ⟨(some 20), none, .load none (.tmp 19)⟩,
          ⟨(some 21), none, .mov (.tmp 1)⟩,
          ⟨(some 22), none, .mov (.tmp 5)⟩,
          ⟨(some 23), none, .iaddr 1 (.tmp 21) (.tmp 22)⟩,
          ⟨(some 24), none, .load none (.tmp 23)⟩,
          ⟨(some 25), none, .bin .neq .other (.tmp 20) (.tmp 24)⟩] (.done)))
        (.cond (.tmp 25)
         (.seq (.ops [
            ⟨(some 4), none, .mov (.val (.bool false))⟩])
          (.ret))
         (.skip))))
      (.ops [
        ⟨(some 15), none, .mov (.tmp 5)⟩,
        ⟨(some 16), none, .bin .add .other (.tmp 15) (.val (.int .i64 1))⟩,
        ⟨(some 5), none, .mov (.tmp 16)⟩]))))))
  (.seq (.ops [
    ⟨(some 4), none, .mov (.val (.bool true))⟩])
  (.ret))))
def e14 : FEnt := ⟨26, c14, [.tmp 4]⟩
theorem v14 : Valid Try.prog 14 e14 :=
  ⟨Try.f14, Try.f14.body.getD .skip, Try.func14, by kernel_rfl, by kernel_rfl, by kernel_rfl, by kernel_rfl, by kernel_rfl⟩

/-- (*jacquard/lock.Locks).wrong -/
def c15 : FC :=
  .seq (.ops [
    ⟨(some 6), none, .mov (.val (.int .i64 0))⟩])
  (.seq (.block 0 (.seq (.ops [
      ⟨(some 8), none, .mov (.tmp 0)⟩,
      ⟨(some 9), none, .bin .eql .pointer (.tmp 8) (.val .nilp)⟩,
      ⟨(some 7), none, .mov (.tmp 9)⟩])
    (.cond (.tmp 7)
     (.seq (.ops [
        ⟨(some 6), none, .mov (.val (.int .i64 5))⟩])
      (.ret))
     (.seq (.seq (.ops [
        ⟨(some 11), none, .mov (.tmp 1)⟩,
        ⟨(some 12), none, .bin .lss .other (.tmp 11) (.val (.int .i64 0))⟩,
        ⟨(some 13), none, .mov (.tmp 12)⟩,
        ⟨(some 14), some (13, false), .mov (.tmp 1)⟩,
        ⟨(some 15), some (13, false), .mov (.tmp 0)⟩,
        ⟨(some 16), some (13, false), .nilchk (.tmp 15)⟩,
        ⟨(some 17), some (13, false), .faddr 0 (.tmp 16)⟩,
        ⟨(some 18), some (13, false), .load none (.tmp 17)⟩,
        ⟨(some 19), some (13, false), .len false (.tmp 18)⟩,
        ⟨(some 20), some (13, false), .bin .geq .other (.tmp 14) (.tmp 19)⟩,
        ⟨(some 21), none, .pick (.tmp 13) (.val (.bool true)) (.tmp 20)⟩,
        ⟨(some 10), none, .mov (.tmp 21)⟩])
      (.cond (.tmp 10)
       (.skip)
       (.ops [
          ⟨(some 22), none, .mov (.tmp 2)⟩,
          ⟨(some 23), none, .bin .lss .other (.tmp 22) (.val (.int .i64 0))⟩,
          ⟨(some 24), none, .mov (.tmp 23)⟩,
          ⟨(some 25), some (24, false), .mov (.tmp 2)⟩,
          ⟨(some 26), some (24, false), .bin .geq .other (.tmp 25) (.val (.int .i64 256))⟩,
          ⟨(some 27), none, .pick (.tmp 24) (.val (.bool true)) (.tmp 26)⟩,
          ⟨(some 10), none, .mov (.tmp 27)⟩])))
      (.cond (.tmp 10)
       (.seq (.ops [
          ⟨(some 6), none, .mov (.val (.int .i64 1))⟩])
        (.ret))
       (.skip))))))
  (.seq (.ops [
    ⟨(some 6), none, .mov (.val (.int .i64 0))⟩])
  (.ret)))
def e15 : FEnt := ⟨28, c15, [.tmp 6]⟩
theorem v15 : Valid Try.prog 15 e15 :=
  ⟨Try.f15, Try.f15.body.getD .skip, Try.func15, by kernel_rfl, by kernel_rfl, by kernel_rfl, by kernel_rfl, by kernel_rfl⟩

/-- (*jacquard/lock.Locks).Free -/
def c16 : FC :=
  .seq (.ops [
    ⟨(some 6), none, .mov (.val (.bool false))⟩])
  (.seq (.ops [
    ⟨(some 7), none, .mov (.tmp 0)⟩,
    ⟨(some 8), none, .mov (.tmp 1)⟩,
    ⟨(some 9), none, .mov (.tmp 2)⟩,
    ⟨(some 10), none, .call (.val (.fn 15 [])) [(.tmp 7), (.tmp 8), (.tmp 9)]⟩,
    ⟨(some 11), none, .bin .eql .other (.tmp 10) (.val (.int .i64 0))⟩,
    ⟨(some 12), none, .mov (.tmp 11)⟩,
    ⟨(some 13), some (12, true), .mov (.tmp 0)⟩,
    ⟨(some 14), some (12, true), .nilchk (.tmp 13)⟩,
    ⟨(some 15), some (12, true), .faddr 0 (.tmp 14)⟩,
    ⟨(some 16), some (12, true), .load none (.tmp 15)⟩,
    ⟨(some 17), some (12, true), .mov (.tmp 1)⟩,
    ⟨(some 18), some (12, true), .iaddr 1 (.tmp 16) (.tmp 17)⟩,
    ⟨(some 19), some (12, true), .load none (.tmp 18)⟩,
    ⟨(some 20), some (12, true), .nilchk (.tmp 19)⟩,
    ⟨(some 21), some (12, true), .faddr 0 (.tmp 20)⟩,
    ⟨(some 22), some (12, true), .faddr 1 (.tmp 21)⟩,
    ⟨(some 23), some (12, true), .load none (.tmp 22)⟩,
    ⟨(some 24), some (12, true), .bin .eql .other (.tmp 23) (.val (.int .i64 0))⟩,
    ⟨(some 25), some (12, true), .mov (.tmp 24)⟩,
    ⟨(some 26), some (25, false), .mov (.tmp 0)⟩,
    ⟨(some 27), some (25, false), .nilchk (.tmp 26)⟩,
    ⟨(some 28), some (25, false), .faddr 0 (.tmp 27)⟩,
    ⟨(some 29), some (25, false), .load none (.tmp 28)⟩,
    ⟨(some 30), some (25, false), .mov (.tmp 1)⟩,
    ⟨(some 31), some (25, false), .iaddr 1 (.tmp 29) (.tmp 30)⟩,
    ⟨(some 32), some (25, false), .load none (.tmp 31)⟩,
    ⟨(some 33), some (25, false), .nilchk (.tmp 32)⟩,
    ⟨(some 34), some (25, false), .faddr 0 (.tmp 33)⟩,
    ⟨(some 35), some (25, false), .faddr 0 (.tmp 34)⟩,
    ⟨(some 36), some (25, false), .load none (.tmp 35)⟩,
    ⟨(some 37), some (25, false), .mov (.tmp 2)⟩,
    ⟨(some 38), some (25, false), .bin .eql .other (.tmp 36) (.tmp 37)⟩,
    ⟨(some 39), some (12, true), .pick (.tmp 25) (.val (.bool true)) (.tmp 38)⟩,
    ⟨(some 40), none, .pick (.tmp 12) (.tmp 39) (.val (.bool false))⟩,
    ⟨(some 6), none, .mov (.tmp 40)⟩])
  (.ret))
def e16 : FEnt := ⟨41, c16, [.tmp 6]⟩
theorem v16 : Valid Try.prog 16 e16 :=
  ⟨Try.f16, Try.f16.body.getD .skip, Try.func16, by kernel_rfl, by kernel_rfl, by kernel_rfl, by kernel_rfl, by kernel_rfl⟩

/-- jacquard/lock.of -/
def c17 : FC :=
  .seq (.ops [
    ⟨(some 3), none, .box 3 (.tmp 1)⟩,
    ⟨(some 4), none, .mov (.val (.int .i64 0))⟩])
  (.seq (.ops [
    ⟨(some 5), none, .mov (.tmp 0)⟩,
    ⟨(some 6), none, .mkfn 24 [(.tmp 3)]⟩,
    ⟨(some 7), none, .call (.val (.fn 23 [])) [(.tmp 5), (.tmp 6)]⟩,
    ⟨(some 4), none, .mov (.tmp 7)⟩])
  (.ret))
def e17 : FEnt := ⟨8, c17, [.tmp 4]⟩
theorem v17 : Valid Try.prog 17 e17 :=
  ⟨Try.f17, Try.f17.body.getD .skip, Try.func17, by kernel_rfl, by kernel_rfl, by kernel_rfl, by kernel_rfl, by kernel_rfl⟩

/-- (*jacquard/lock.Locks).has -/
def c18 : FC :=
  .seq (.ops [
    ⟨(some 6), none, .mov (.val (.int .i64 0))⟩])
  (.seq (.seq (.ops [
    ⟨(some 8), none, .mov (.tmp 0)⟩,
    ⟨(some 9), none, .mov (.tmp 1)⟩,
    ⟨(some 10), none, .mov (.tmp 2)⟩,
    ⟨(some 11), none, .call (.val (.fn 15 [])) [(.tmp 8), (.tmp 9), (.tmp 10)]⟩,
    ⟨(some 7), none, .mov (.tmp 11)⟩])
  (.seq (.ops [
    ⟨(some 12), none, .mov (.tmp 7)⟩,
    ⟨(some 13), none, .bin .neq .other (.tmp 12) (.val (.int .i64 0))⟩])
  (.cond (.tmp 13)
   (.seq (.ops [
      ⟨(some 14), none, .mov (.tmp 7)⟩,
      ⟨(some 6), none, .mov (.tmp 14)⟩])
    (.ret))
   (.skip))))
  (.seq (.seq (.ops [
    ⟨(some 15), none, .mov (.tmp 0)⟩,
    ⟨(some 16), none, .nilchk (.tmp 15)⟩,
    ⟨(some 17), none, .faddr 0 (.tmp 16)⟩,
    ⟨(some 18), none, .load none (.tmp 17)⟩,
    ⟨(some 19), none, .mov (.tmp 1)⟩,
    ⟨(some 20), none, .iaddr 1 (.tmp 18) (.tmp 19)⟩,
    ⟨(some 21), none, .load none (.tmp 20)⟩,
    ⟨(some 22), none, .nilchk (.tmp 21)⟩,
    ⟨(some 23), none, .faddr 0 (.tmp 22)⟩,
    ⟨(some 24), none, .faddr 1 (.tmp 23)⟩,
    ⟨(some 25), none, .load none (.tmp 24)⟩,
    ⟨(some 26), none, .bin .eql .other (.tmp 25) (.val (.int .i64 0))⟩,
    ⟨(some 27), none, .mov (.tmp 26)⟩,
    ⟨(some 28), some (27, false), .mov (.tmp 0)⟩,
    ⟨(some 29), some (27, false), .nilchk (.tmp 28)⟩,
    ⟨(some 30), some (27, false), .faddr 0 (.tmp 29)⟩,
    ⟨(some 31), some (27, false), .load none (.tmp 30)⟩,
    ⟨(some 32), some (27, false), .mov (.tmp 1)⟩,
    ⟨(some 33), some (27, false), .iaddr 1 (.tmp 31) (.tmp 32)⟩,
    ⟨(some 34), some (27, false), .load none (.tmp 33)⟩,
    ⟨(some 35), some (27, false), .nilchk (.tmp 34)⟩,
    ⟨(some 36), some (27, false), .faddr 0 (.tmp 35)⟩,
    ⟨(some 37), some (27, false), .faddr 0 (.tmp 36)⟩,
    ⟨(some 38), some (27, false), .load none (.tmp 37)⟩,
    ⟨(some 39), some (27, false), .mov (.tmp 2)⟩,
    ⟨(some 40), some (27, false), .bin .neq .other (.tmp 38) (.tmp 39)⟩,
    ⟨(some 41), none, .pick (.tmp 27) (.val (.bool true)) (.tmp 40)⟩])
  (.cond (.tmp 41)
   (.seq (.ops [
      ⟨(some 6), none, .mov (.val (.int .i64 8))⟩])
    (.ret))
   (.skip)))
  (.seq (.ops [
    ⟨(some 6), none, .mov (.val (.int .i64 0))⟩])
  (.ret))))
def e18 : FEnt := ⟨42, c18, [.tmp 6]⟩
theorem v18 : Valid Try.prog 18 e18 :=
  ⟨Try.f18, Try.f18.body.getD .skip, Try.func18, by kernel_rfl, by kernel_rfl, by kernel_rfl, by kernel_rfl, by kernel_rfl⟩

/-- jacquard/lock.parted[jacquard/lock.sleeper] -/
def c19 : FC :=
  .seq (.ops [
    ⟨(some 4), none, .mov (.val .nils)⟩,
    ⟨(some 5), none, .mov (.val .nils)⟩])
  (.seq (.seq (.ops [
    ⟨(some 8), none, .mov (.tmp 0)⟩,
    ⟨(some 9), none, .len false (.tmp 8)⟩,
    ⟨(some 10), none, .mov (.val (.int .i64 0))⟩])
  (.block 0 (.loop (.seq (.ops [
        ⟨(some 11), none, .bin .lss .other (.tmp 10) (.tmp 9)⟩])
      (.seq (.cond (.tmp 11)
       (.skip)
       (.exit 0))
      (.seq (.block 1 (.seq (.ops [
          ⟨(some 12), none, .iaddr 6 (.tmp 8) (.tmp 10)⟩,
          ⟨(some 13), none, .load (some 6) (.tmp 12)⟩,
          ⟨(some 7), none, .alloc 51 [(.int .i64 0), (.int .i64 0), (.int .i64 0), (.int .i64 0), (.int .i64 0), (.bool false)]⟩,
          ⟨none, none, .store 6 (.tmp 7) (.tmp 13)⟩])
        (.seq (.ops [
          ⟨(some 14), none, .mov (.tmp 1)⟩,
          ⟨(some 15), none, .load (some 6) (.tmp 7)⟩,
          ⟨(some 16), none, .call (.tmp 14) [(.tmp 15)]⟩])
        (.cond (.tmp 16)
         (.ops [
            ⟨(some 17), none, .mov (.tmp 4)⟩,
            ⟨(some 18), none, .load (some 6) (.tmp 7)⟩,
            ⟨(some 19), none, .bslice 51 6 [(.int .i64 0), (.int .i64 0), (.int .i64 0), (.int .i64 0), (.int .i64 0), (.bool false)] 1 [(0, 6, (.tmp 18))]⟩,
            ⟨(some 20), none, .append 51 6 48 (.tmp 17) (.tmp 19)⟩,
            ⟨(some 4), none, .mov (.tmp 20)⟩])
         (.ops [
            ⟨(some 21), none, .mov (.tmp 5)⟩,
            ⟨(some 22), none, .load (some 6) (.tmp 7)⟩,
            ⟨(some 23), none, .bslice 51 6 [(.int .i64 0), (.int .i64 0), (.int .i64 0), (.int .i64 0), (.int .i64 0), (.bool false)] 1 [(0, 6, (.tmp 22))]⟩,
            ⟨(some 24), none, .append 51 6 48 (.tmp 21) (.tmp 23)⟩,
            ⟨(some 5), none, .mov (.tmp 24)⟩])))))
      (.ops [
        ⟨(some 25), none, .bin .add .other (.tmp 10) (.val (.int .i64 1))⟩,
        ⟨(some 10), none, .mov (.tmp 25)⟩])))))))
  (.seq (.ops [
    ⟨(some 26), none, .mov (.tmp 4)⟩,
    ⟨(some 27), none, .mov (.tmp 5)⟩,
    ⟨(some 4), none, .mov (.tmp 26)⟩,
    ⟨(some 5), none, .mov (.tmp 27)⟩])
  (.ret)))
def e19 : FEnt := ⟨28, c19, [.tmp 4, .tmp 5]⟩
theorem v19 : Valid Try.prog 19 e19 :=
  ⟨Try.f19, Try.f19.body.getD .skip, Try.func19, by kernel_rfl, by kernel_rfl, by kernel_rfl, by kernel_rfl, by kernel_rfl⟩

/-- (*jacquard/lock.Locks).Notify$1 -/
def c20 : FC :=
  .seq (.ops [
    ⟨(some 4), none, .box 51 (.tmp 0)⟩,
    ⟨(some 5), none, .mov (.val (.bool false))⟩])
  (.seq (.seq (.ops [
    ⟨(some 6), none, .faddr 2 (.tmp 4)⟩,
    ⟨(some 7), none, .load none (.tmp 6)⟩,
    ⟨(some 8), none, .load none (.tmp 1)⟩,
    ⟨(some 9), none, .bin .neq .other (.tmp 7) (.tmp 8)⟩,
    ⟨(some 10), none, .mov (.tmp 9)⟩,
    ⟨(some 11), some (10, false), .load none (.tmp 2)⟩,
    ⟨(some 12), some (10, false), .bin .gtr .other (.tmp 11) (.val (.int .i64 0))⟩,
    ⟨(some 13), some (10, false), .mov (.tmp 12)⟩,
    ⟨(some 14), some (13, true), .load none (.tmp 3)⟩,
    ⟨(some 15), some (13, true), .un .not (.tmp 14)⟩,
    ⟨(some 16), some (10, false), .pick (.tmp 13) (.tmp 15) (.val (.bool false))⟩,
    ⟨(some 17), none, .pick (.tmp 10) (.val (.bool true)) (.tmp 16)⟩])
  (.cond (.tmp 17)
   (.seq (.ops [
      ⟨(some 5), none, .mov (.val (.bool false))⟩])
    (.ret))
   (.skip)))
  (.seq (.ops [
    ⟨(some 18), none, .load none (.tmp 2)⟩,
    ⟨(some 19), none, .bin .add .other (.tmp 18) (.val (.int .i64 1))⟩,
    ⟨none, none, .store 1 (.tmp 2) (.tmp 19)⟩])
  (.seq (.ops [
    ⟨(some 5), none, .mov (.val (.bool true))⟩])
  (.ret))))
def e20 : FEnt := ⟨20, c20, [.tmp 5]⟩
theorem v20 : Valid Try.prog 20 e20 :=
  ⟨Try.f20, Try.f20.body.getD .skip, Try.func20, by kernel_rfl, by kernel_rfl, by kernel_rfl, by kernel_rfl, by kernel_rfl⟩

/-- (*jacquard/lock.Locks).wake -/
def c21 : FC :=
  .seq (.ops [
    ⟨(some 6), none, .mov (.val .nils)⟩])
  (.seq (.ops [
    ⟨(some 7), none, .mov (.val .nils)⟩])
  (.seq (.seq (.ops [
    ⟨(some 10), none, .mov (.tmp 1)⟩,
    ⟨(some 11), none, .len false (.tmp 10)⟩,
    ⟨(some 12), none, .mov (.val (.int .i64 0))⟩])
  (.block 0 (.loop (.seq (.ops [
        ⟨(some 13), none, .bin .lss .other (.tmp 12) (.tmp 11)⟩])
      (.seq (.cond (.tmp 13)
       (.skip)
       (.exit 0))
      (.seq (.block 1 (.seq (.ops [
          ⟨(some 14), none, .iaddr 6 (.tmp 10) (.tmp 12)⟩,
          ⟨(some 15), none, .load (some 6) (.tmp 14)⟩,
          ⟨(some 9), none, .alloc 51 [(.int .i64 0), (.int .i64 0), (.int .i64 0), (.int .i64 0), (.int .i64 0), (.bool false)]⟩,
          ⟨none, none, .store 6 (.tmp 9) (.tmp 15)⟩])
        (.seq (.ops [
          ⟨(some 16), none, .mov (.tmp 2)⟩,
          ⟨(some 17), none, .faddr 5 (.tmp 9)⟩,
          ⟨none, none, .store 1 (.tmp 17) (.tmp 16)⟩])
        (.seq (.draw (.ops [
          ⟨(some 18), none, .mov (.tmp 0)⟩,
          ⟨(some 19), none, .mov (.tmp 0)⟩,
          ⟨(some 20), none, .nilchk (.tmp 19)⟩,
          ⟨(some 21), none, .faddr 2 (.tmp 20)⟩,
          ⟨(some 22), none, .load none (.tmp 21)⟩,
          ⟨(some 23), none, .load (some 6) (.tmp 9)⟩,
          ⟨(some 24), none, .bslice 51 6 [(.int .i64 0), (.int .i64 0), (.int .i64 0), (.int .i64 0), (.int .i64 0), (.bool false)] 1 [(0, 6, (.tmp 23))]⟩,
          ⟨(some 25), none, .append 51 6 48 (.tmp 22) (.tmp 24)⟩,
          ⟨(some 26), none, .nilchk (.tmp 18)⟩,
          ⟨(some 27), none, .faddr 2 (.tmp 26)⟩,
          ⟨none, none, .store 1 (.tmp 27) (.tmp 25)⟩] (.done)))
        (.ops [
          ⟨(some 28), none, .mov (.tmp 7)⟩,
          ⟨(some 29), none, .faddr 0 (.tmp 9)⟩,
          ⟨(some 30), none, .faddr 0 (.tmp 29)⟩,
          ⟨(some 31), none, .load none (.tmp 30)⟩,
          ⟨(some 32), none, .bslice 3 1 [(.int .i64 0)] 1 [(0, 1, (.tmp 31))]⟩,
          ⟨(some 33), none, .append 3 1 8 (.tmp 28) (.tmp 32)⟩,
          ⟨(some 7), none, .mov (.tmp 33)⟩])))))
      (.ops [
        ⟨(some 34), none, .bin .add .other (.tmp 12) (.val (.int .i64 1))⟩,
        ⟨(some 12), none, .mov (.tmp 34)⟩])))))))
  (.seq (.ops [
    ⟨(some 35), none, .mov (.tmp 7)⟩,
    ⟨(some 6), none, .mov (.tmp 35)⟩])
  (.ret))))
def e21 : FEnt := ⟨36, c21, [.tmp 6]⟩
theorem v21 : Valid Try.prog 21 e21 :=
  ⟨Try.f21, Try.f21.body.getD .skip, Try.func21, by kernel_rfl, by kernel_rfl, by kernel_rfl, by kernel_rfl, by kernel_rfl⟩

/-- slices.Delete[[]jacquard/lock.sleeper,jacquard/lock.sleeper] -/
def c22 : FC :=
  .seq (.ops [
    ⟨(some 6), none, .mov (.val .nils)⟩])
  (.seq (.ops [
    ⟨(some 8), none, .mov (.tmp 0)⟩,
    ⟨(some 9), none, .mov (.tmp 1)⟩,
    ⟨(some 10), none, .mov (.tmp 2)⟩,
    ⟨(some 11), none, .mov (.tmp 0)⟩,
    ⟨(some 12), none, .len false (.tmp 11)⟩,
    ⟨(some 13), none, .slice 51 6 (.tmp 8) (some (.tmp 9)) (some (.tmp 10)) (some (.tmp 12))⟩])
  (.seq (.seq (.ops [
    ⟨(some 14), none, .mov (.tmp 1)⟩,
    ⟨(some 15), none, .mov (.tmp 2)⟩,
    ⟨(some 16), none, .bin .eql .other (.tmp 14) (.tmp 15)⟩])
  (.cond (.tmp 16)
   (.seq (.ops [
      ⟨(some 17), none, .mov (.tmp 0)⟩,
      ⟨(some 6), none, .mov (.tmp 17)⟩])
    (.ret))
   (.skip)))
  (.seq (.ops [
    ⟨(some 18), none, .mov (.tmp 0)⟩,
    ⟨(some 19), none, .len false (.tmp 18)⟩,
    ⟨(some 7), none, .mov (.tmp 19)⟩])
  (.seq (.draw (.ops [
    ⟨(some 20), none, .mov (.tmp 0)⟩,
    ⟨(some 21), none, .mov (.tmp 1)⟩,
    ⟨(some 22), none, .slice 51 6 (.tmp 20) none (some (.tmp 21)) none⟩,
    ⟨(some 23), none, .mov (.tmp 0)⟩,
    ⟨(some 24), none, .mov (.tmp 2)⟩,
    ⟨(some 25), none, .slice 51 6 (.tmp 23) (some (.tmp 24)) none none⟩,
    ⟨(some 26), none, .append 51 6 48 (.tmp 22) (.tmp 25)⟩,
    ⟨(some 0), none, .mov (.tmp 26)⟩] (.done)))
  (.seq (.ops [
    ⟨(some 27), none, .mov (.tmp 0)⟩,
    ⟨(some 28), none, .mov (.tmp 0)⟩,
    ⟨(some 29), none, .len false (.tmp 28)⟩,
    ⟨(some 30), none, .mov (.tmp 7)⟩,
    ⟨(some 31), none, .slice 51 6 (.tmp 27) (some (.tmp 29)) (some (.tmp 30)) none⟩,
    ⟨none, none, .clear 6 #[.int .i64 0, .int .i64 0, .int .i64 0, .int .i64 0, .int .i64 0, .bool false] (.tmp 31)⟩])
  (.seq (.ops [
    ⟨(some 32), none, .mov (.tmp 0)⟩,
    ⟨(some 6), none, .mov (.tmp 32)⟩])
  (.ret)))))))
def e22 : FEnt := ⟨33, c22, [.tmp 6]⟩
theorem v22 : Valid Try.prog 22 e22 :=
  ⟨Try.f22, Try.f22.body.getD .skip, Try.func22, by kernel_rfl, by kernel_rfl, by kernel_rfl, by kernel_rfl, by kernel_rfl⟩

/-- slices.IndexFunc[[]jacquard/lock.sleeper,jacquard/lock.sleeper] -/
def c23 : FC :=
  .seq (.ops [
    ⟨(some 4), none, .mov (.val (.int .i64 0))⟩])
  (.seq (.seq (.ops [
    ⟨(some 6), none, .mov (.tmp 0)⟩,
    ⟨(some 7), none, .len false (.tmp 6)⟩,
    ⟨(some 8), none, .mov (.val (.int .i64 0))⟩])
  (.block 0 (.loop (.seq (.ops [
        ⟨(some 9), none, .bin .lss .other (.tmp 8) (.tmp 7)⟩])
      (.seq (.cond (.tmp 9)
       (.skip)
       (.exit 0))
      (.seq (.block 1 (.seq (.ops [
          ⟨(some 10), none, .mov (.tmp 8)⟩,
          ⟨(some 5), none, .mov (.tmp 10)⟩])
        (.seq (.ops [
          ⟨(some 11), none, .mov (.tmp 1)⟩,
          ⟨(some 12), none, .mov (.tmp 0)⟩,
          ⟨(some 13), none, .mov (.tmp 5)⟩,
          ⟨(some 14), none, .iaddr 6 (.tmp 12) (.tmp 13)⟩,
          ⟨(some 15), none, .load (some 6) (.tmp 14)⟩,
          ⟨(some 16), none, .call (.tmp 11) [(.tmp 15)]⟩])
        (.cond (.tmp 16)
         (.seq (.ops [
            ⟨(some 17), none, .mov (.tmp 5)⟩,
            ⟨(some 4), none, .mov (.tmp 17)⟩])
          (.ret))
         (.skip)))))
      (.ops [
        ⟨(some 18), none, .bin .add .other (.tmp 8) (.val (.int .i64 1))⟩,
        ⟨(some 8), none, .mov (.tmp 18)⟩])))))))
  (.seq (.ops [
    ⟨(some 4), none, .mov (.val (.int .i64 (-1)))⟩])
  (.ret)))
def e23 : FEnt := ⟨19, c23, [.tmp 4]⟩
theorem v23 : Valid Try.prog 23 e23 :=
  ⟨Try.f23, Try.f23.body.getD .skip, Try.func23, by kernel_rfl, by kernel_rfl, by kernel_rfl, by kernel_rfl, by kernel_rfl⟩

/-- jacquard/lock.of$1 -/
def c24 : FC :=
  .seq (.ops [
    ⟨(some 2), none, .box 51 (.tmp 0)⟩,
    ⟨(some 3), none, .mov (.val (.bool false))⟩])
  (.seq (.ops [
    ⟨(some 4), none, .faddr 0 (.tmp 2)⟩,
    ⟨(some 5), none, .faddr 0 (.tmp 4)⟩,
    ⟨(some 6), none, .load none (.tmp 5)⟩,
    ⟨(some 7), none, .load none (.tmp 1)⟩,
    ⟨(some 8), none, .bin .eql .other (.tmp 6) (.tmp 7)⟩,
    ⟨(some 3), none, .mov (.tmp 8)⟩])
  (.ret))
def e24 : FEnt := ⟨9, c24, [.tmp 3]⟩
theorem v24 : Valid Try.prog 24 e24 :=
  ⟨Try.f24, Try.f24.body.getD .skip, Try.func24, by kernel_rfl, by kernel_rfl, by kernel_rfl, by kernel_rfl, by kernel_rfl⟩

end Go.Proofs.Ytgiiipimhdikkaa
