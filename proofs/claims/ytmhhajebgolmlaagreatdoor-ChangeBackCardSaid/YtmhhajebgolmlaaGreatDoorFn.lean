/- The code of the functions that are run by law, as the plain machine reads it. -/
import Derived.Test.YtmhhajebgolmlaaGreatDoorMemo
set_option linter.unusedSimpArgs false
set_option linter.unusedVariables false
namespace Go.E.Fn
-- lictor/lictorlaw16.ChangeBack
def ef3 : EFunc := ⟨87, [.tmp (ix 4)],
  (.seq
  (.region [
    ⟨(some (ix 4)), .move (.const (.bool false)), none⟩])
  (.seq
  (.seq
  (.region [
    ⟨(some (ix 16)), .call 4 [], none⟩,
    ⟨(some (ix 17)), .un .not (.tmp (ix 16)), none⟩])
  (.cond (.tmp (ix 17))
    (.seq
    (.region [
      ⟨(some (ix 4)), .move (.const (.bool false)), none⟩])
    .ret)
    .skip))
  (.seq
  (.region [
    ⟨(some (ix 19)), .move (.tmp (ix 0)), none⟩,
    ⟨(some (ix 20)), .call 5 [(.tmp (ix 19))], none⟩,
    ⟨(some (ix 18)), .move (.tmp (ix 20)), none⟩,
    ⟨(some (ix 21)), .extract (.tmp (ix 18)) 0, none⟩,
    ⟨(some (ix 22)), .extract (.tmp (ix 18)) 1, none⟩,
    ⟨(some (ix 5)), .move (.tmp (ix 21)), none⟩,
    ⟨(some (ix 6)), .move (.tmp (ix 22)), none⟩])
  (.seq
  (.seq
  (.region [
    ⟨(some (ix 23)), .move (.tmp (ix 6)), none⟩,
    ⟨(some (ix 24)), .bin .eql (.tmp (ix 23)) (.const (.int .i64 0)), none⟩])
  (.cond (.tmp (ix 24))
    (.seq
    (.region [
      ⟨(some (ix 26)), .move (.tmp (ix 5)), none⟩,
      ⟨(some (ix 27)), .call 6 [(.tmp (ix 26))], none⟩,
      ⟨(some (ix 25)), .move (.tmp (ix 27)), none⟩,
      ⟨(some (ix 28)), .extract (.tmp (ix 25)) 0, none⟩,
      ⟨(some (ix 29)), .extract (.tmp (ix 25)) 1, none⟩,
      ⟨(some (ix 7)), .move (.tmp (ix 28)), none⟩,
      ⟨(some (ix 8)), .move (.tmp (ix 29)), none⟩])
    (.seq
    (.region [
      ⟨(some (ix 31)), .move (.tmp (ix 5)), none⟩,
      ⟨(some (ix 32)), .move (.tmp (ix 5)), none⟩,
      ⟨(some (ix 33)), .lenStr (.tmp (ix 32)), none⟩,
      ⟨(some (ix 34)), .bin .sub (.tmp (ix 33)) (.const (.int .i64 1)), none⟩,
      ⟨(some (ix 35)), .sliceStr (.tmp (ix 31)) none (some (.tmp (ix 34))), none⟩,
      ⟨(some (ix 36)), .call 6 [(.tmp (ix 35))], none⟩,
      ⟨(some (ix 30)), .move (.tmp (ix 36)), none⟩,
      ⟨(some (ix 37)), .extract (.tmp (ix 30)) 0, none⟩,
      ⟨(some (ix 38)), .extract (.tmp (ix 30)) 1, none⟩,
      ⟨(some (ix 9)), .move (.tmp (ix 37)), none⟩,
      ⟨(some (ix 10)), .move (.tmp (ix 38)), none⟩])
    (.seq
    (.region [
      ⟨(some (ix 40)), .move (.tmp (ix 5)), none⟩,
      ⟨(some (ix 41)), .bin .add (.tmp (ix 40)) (.const (.str [0])), none⟩,
      ⟨(some (ix 42)), .call 6 [(.tmp (ix 41))], none⟩,
      ⟨(some (ix 39)), .move (.tmp (ix 42)), none⟩,
      ⟨(some (ix 43)), .extract (.tmp (ix 39)) 0, none⟩,
      ⟨(some (ix 44)), .extract (.tmp (ix 39)) 1, none⟩,
      ⟨(some (ix 11)), .move (.tmp (ix 43)), none⟩,
      ⟨(some (ix 12)), .move (.tmp (ix 44)), none⟩])
    (.seq
    (.region [
      ⟨(some (ix 45)), .move (.tmp (ix 8)), none⟩,
      ⟨(some (ix 46)), .bin .neq (.tmp (ix 45)) (.const (.int .i64 0)), none⟩,
      ⟨(some (ix 47)), .move (.tmp (ix 46)), none⟩,
      ⟨(some (ix 48)), .move (.tmp (ix 0)), (some ((ix 47), false))⟩,
      ⟨(some (ix 49)), .move (.tmp (ix 7)), (some ((ix 47), false))⟩,
      ⟨(some (ix 50)), .call 7 [(.tmp (ix 48)), (.tmp (ix 49))], (some ((ix 47), false))⟩,
      ⟨(some (ix 51)), .un .not (.tmp (ix 50)), (some ((ix 47), false))⟩,
      ⟨(some (ix 52)), .pick (.tmp (ix 47)) (.const (.bool true)) (.tmp (ix 51)), none⟩,
      ⟨(some (ix 53)), .move (.tmp (ix 52)), none⟩,
      ⟨(some (ix 54)), .move (.tmp (ix 10)), (some ((ix 53), false))⟩,
      ⟨(some (ix 55)), .bin .neq (.tmp (ix 54)) (.const (.int .i64 14)), (some ((ix 53), false))⟩,
      ⟨(some (ix 56)), .pick (.tmp (ix 53)) (.const (.bool true)) (.tmp (ix 55)), none⟩,
      ⟨(some (ix 57)), .move (.tmp (ix 56)), none⟩,
      ⟨(some (ix 58)), .move (.tmp (ix 12)), (some ((ix 57), false))⟩,
      ⟨(some (ix 59)), .bin .neq (.tmp (ix 58)) (.const (.int .i64 14)), (some ((ix 57), false))⟩,
      ⟨(some (ix 60)), .pick (.tmp (ix 57)) (.const (.bool true)) (.tmp (ix 59)), none⟩])
    (.cond (.tmp (ix 60))
      (.seq
      (.region [
        ⟨(some (ix 4)), .move (.const (.bool false)), none⟩])
      .ret)
      .skip)))))
    .skip))
  (.seq
  (.region [
    ⟨(some (ix 62)), .move (.tmp (ix 1)), none⟩,
    ⟨(some (ix 63)), .call 6 [(.tmp (ix 62))], none⟩,
    ⟨(some (ix 61)), .move (.tmp (ix 63)), none⟩,
    ⟨(some (ix 64)), .extract (.tmp (ix 61)) 0, none⟩,
    ⟨(some (ix 65)), .extract (.tmp (ix 61)) 1, none⟩,
    ⟨(some (ix 13)), .move (.tmp (ix 64)), none⟩,
    ⟨(some (ix 6)), .move (.tmp (ix 65)), none⟩])
  (.seq
  (.seq
  (.region [
    ⟨(some (ix 66)), .move (.tmp (ix 6)), none⟩,
    ⟨(some (ix 67)), .bin .neq (.tmp (ix 66)) (.const (.int .i64 0)), none⟩])
  (.cond (.tmp (ix 67))
    (.seq
    (.region [
      ⟨(some (ix 68)), .move (.tmp (ix 6)), none⟩,
      ⟨(some (ix 69)), .bin .eql (.tmp (ix 68)) (.const (.int .i64 14)), none⟩,
      ⟨(some (ix 70)), .move (.tmp (ix 69)), none⟩,
      ⟨(some (ix 71)), .move (.tmp (ix 13)), (some ((ix 70), true))⟩,
      ⟨(some (ix 72)), .lenSl (.tmp (ix 71)), (some ((ix 70), true))⟩,
      ⟨(some (ix 73)), .bin .eql (.tmp (ix 72)) (.const (.int .i64 0)), (some ((ix 70), true))⟩,
      ⟨(some (ix 74)), .pick (.tmp (ix 70)) (.tmp (ix 73)) (.const (.bool false)), none⟩,
      ⟨(some (ix 4)), .move (.tmp (ix 74)), none⟩])
    .ret)
    .skip))
  (.seq
  (.region [
    ⟨(some (ix 76)), .move (.tmp (ix 13)), none⟩,
    ⟨(some (ix 77)), .call 5 [(.tmp (ix 76))], none⟩,
    ⟨(some (ix 75)), .move (.tmp (ix 77)), none⟩,
    ⟨(some (ix 78)), .extract (.tmp (ix 75)) 0, none⟩,
    ⟨(some (ix 79)), .extract (.tmp (ix 75)) 1, none⟩,
    ⟨(some (ix 14)), .move (.tmp (ix 78)), none⟩,
    ⟨(some (ix 15)), .move (.tmp (ix 79)), none⟩])
  (.seq
  (.region [
    ⟨(some (ix 80)), .move (.tmp (ix 15)), none⟩,
    ⟨(some (ix 81)), .bin .eql (.tmp (ix 80)) (.const (.int .i64 0)), none⟩,
    ⟨(some (ix 82)), .move (.tmp (ix 81)), none⟩,
    ⟨(some (ix 83)), .move (.tmp (ix 14)), (some ((ix 82), true))⟩,
    ⟨(some (ix 84)), .move (.tmp (ix 1)), (some ((ix 82), true))⟩,
    ⟨(some (ix 85)), .bin .eql (.tmp (ix 83)) (.tmp (ix 84)), (some ((ix 82), true))⟩,
    ⟨(some (ix 86)), .pick (.tmp (ix 82)) (.tmp (ix 85)) (.const (.bool false)), none⟩,
    ⟨(some (ix 4)), .move (.tmp (ix 86)), none⟩])
  .ret))))))))⟩
-- lictor/change.Pack
def ef5 : EFunc := ⟨48, [.tmp (ix 2), .tmp (ix 3)],
  (.seq
  (.region [
    ⟨(some (ix 2)), .move (.const (.str [])), none⟩,
    ⟨(some (ix 3)), .move (.const (.int .i64 0)), none⟩])
  (.seq
  (.region [
    ⟨(some (ix 4)), .move (.const (.func (.func 11) [] [])), none⟩])
  (.seq
  (.block 0
    (.seq
    (.region [
      ⟨(some (ix 11)), .move (.tmp (ix 0)), none⟩,
      ⟨(some (ix 12)), .lenSl (.tmp (ix 11)), none⟩,
      ⟨(some (ix 13)), .bin .gtr (.tmp (ix 12)) (.const (.int .i64 255)), none⟩,
      ⟨(some (ix 10)), .move (.tmp (ix 13)), none⟩])
    (.cond (.tmp (ix 10))
      (.seq
      (.region [
        ⟨(some (ix 2)), .move (.const (.str [])), none⟩,
        ⟨(some (ix 3)), .move (.const (.int .i64 2)), none⟩])
      .ret)
      (.seq
      (.region [
        ⟨(some (ix 15)), .move (.tmp (ix 0)), none⟩,
        ⟨(some (ix 16)), .call 15 [(.tmp (ix 15)), (.const (.func (.func 16) [] []))], none⟩,
        ⟨(some (ix 14)), .move (.tmp (ix 16)), none⟩])
      (.cond (.tmp (ix 14))
        (.seq
        (.region [
          ⟨(some (ix 2)), .move (.const (.str [])), none⟩,
          ⟨(some (ix 3)), .move (.const (.int .i64 5)), none⟩])
        .ret)
        (.seq
        (.region [
          ⟨(some (ix 18)), .move (.tmp (ix 0)), none⟩,
          ⟨(some (ix 19)), .move (.tmp (ix 4)), none⟩,
          ⟨(some (ix 20)), .call 15 [(.tmp (ix 18)), (.tmp (ix 19))], none⟩,
          ⟨(some (ix 17)), .move (.tmp (ix 20)), none⟩])
        (.cond (.tmp (ix 17))
          (.seq
          (.region [
            ⟨(some (ix 2)), .move (.const (.str [])), none⟩,
            ⟨(some (ix 3)), .move (.const (.int .i64 3)), none⟩])
          .ret)
          .skip)))))))
  (.seq
  (.region [
    ⟨(some (ix 5)), .alloc 59 [.pnil, .snil], none⟩])
  (.seq
  (.region [
    ⟨(some (ix 21)), .move (.tmp (ix 0)), none⟩,
    ⟨(some (ix 22)), .lenSl (.tmp (ix 21)), none⟩,
    ⟨(some (ix 23)), .convInt .u8 (.tmp (ix 22)), none⟩,
    ⟨(some (ix 24)), .call 18 [(.tmp (ix 5)), (.tmp (ix 23))], none⟩])
  (.seq
  (.seq
  (.region [
    ⟨(some (ix 25)), .move (.tmp (ix 0)), none⟩,
    ⟨(some (ix 26)), .lenSl (.tmp (ix 25)), none⟩,
    ⟨(some (ix 27)), .move (.const (.int .i64 0)), none⟩])
  (.block 1
    (.loop
      (.seq
      (.region [
        ⟨(some (ix 28)), .bin .lss (.tmp (ix 27)) (.tmp (ix 26)), none⟩])
      (.seq
      (.cond (.tmp (ix 28))
        .skip
        (.exit 1))
      (.seq
      (.block 2
        (.seq
        (.region [
          ⟨(some (ix 29)), .iaddrS 5 (.tmp (ix 25)) (.tmp (ix 27)), none⟩,
          ⟨(some (ix 30)), .load (some 5) (.tmp (ix 29)), none⟩,
          ⟨(some (ix 7)), .alloc 35 [(.int .u8 0), (.str []), (.str []), (.str []), (.str [])], none⟩,
          ⟨none, .store 5 (.tmp (ix 7)) (.tmp (ix 30)), none⟩])
        (.seq
        (.region [
          ⟨(some (ix 31)), .faddr 0 (.tmp (ix 7)), none⟩,
          ⟨(some (ix 32)), .load none (.tmp (ix 31)), none⟩,
          ⟨(some (ix 33)), .call 18 [(.tmp (ix 5)), (.tmp (ix 32))], none⟩])
        (.seq
        (.region [
          ⟨(some (ix 34)), .call 13 [(.tmp (ix 7))], none⟩,
          ⟨(some (ix 35)), .lenSl (.tmp (ix 34)), none⟩,
          ⟨(some (ix 36)), .move (.const (.int .i64 0)), none⟩])
        (.block 3
          (.loop
            (.seq
            (.region [
              ⟨(some (ix 37)), .bin .lss (.tmp (ix 36)) (.tmp (ix 35)), none⟩])
            (.seq
            (.cond (.tmp (ix 37))
              .skip
              (.exit 3))
            (.seq
            (.block 4
              (.seq
              (.region [
                ⟨(some (ix 38)), .iaddrS 1 (.tmp (ix 34)) (.tmp (ix 36)), none⟩,
                ⟨(some (ix 39)), .load none (.tmp (ix 38)), none⟩,
                ⟨(some (ix 9)), .move (.tmp (ix 39)), none⟩])
              (.region [
                ⟨(some (ix 40)), .move (.tmp (ix 9)), none⟩,
                ⟨(some (ix 41)), .nilCheck (.tmp (ix 40)), none⟩,
                ⟨(some (ix 42)), .load none (.tmp (ix 41)), none⟩,
                ⟨(some (ix 43)), .call 20 [(.tmp (ix 42))], none⟩,
                ⟨(some (ix 44)), .call 19 [(.tmp (ix 5)), (.tmp (ix 43))], none⟩])))
            (.region [
              ⟨(some (ix 45)), .bin .add (.tmp (ix 36)) (.const (.int .i64 1)), none⟩,
              ⟨(some (ix 36)), .move (.tmp (ix 45)), none⟩]))))))))))
      (.region [
        ⟨(some (ix 46)), .bin .add (.tmp (ix 27)) (.const (.int .i64 1)), none⟩,
        ⟨(some (ix 27)), .move (.tmp (ix 46)), none⟩])))))))
  (.seq
  (.region [
    ⟨(some (ix 47)), .call 21 [(.tmp (ix 5))], none⟩,
    ⟨(some (ix 2)), .move (.tmp (ix 47)), none⟩,
    ⟨(some (ix 3)), .move (.const (.int .i64 0)), none⟩])
  .ret)))))))⟩
-- lictor/change.Unpack
def ef6 : EFunc := ⟨23, [.tmp (ix 2), .tmp (ix 3)],
  (.seq
  (.region [
    ⟨(some (ix 2)), .move (.const .snil), none⟩,
    ⟨(some (ix 3)), .move (.const (.int .i64 0)), none⟩])
  (.seq
  (.region [
    ⟨(some (ix 6)), .move (.tmp (ix 0)), none⟩,
    ⟨(some (ix 7)), .build [(.str []), (.bool false)] [(0, 1, (.tmp (ix 6)))], none⟩,
    ⟨(some (ix 8)), .box 69 (.tmp (ix 7)), none⟩,
    ⟨(some (ix 4)), .move (.tmp (ix 8)), none⟩])
  (.seq
  (.region [
    ⟨(some (ix 9)), .move (.tmp (ix 4)), none⟩,
    ⟨(some (ix 10)), .call 22 [(.tmp (ix 9))], none⟩,
    ⟨(some (ix 5)), .move (.tmp (ix 10)), none⟩])
  (.seq
  (.seq
  (.region [
    ⟨(some (ix 11)), .move (.tmp (ix 4)), none⟩,
    ⟨(some (ix 12)), .nilCheck (.tmp (ix 11)), none⟩,
    ⟨(some (ix 13)), .faddr 1 (.tmp (ix 12)), none⟩,
    ⟨(some (ix 14)), .load none (.tmp (ix 13)), none⟩,
    ⟨(some (ix 15)), .move (.tmp (ix 14)), none⟩,
    ⟨(some (ix 16)), .move (.tmp (ix 4)), (some ((ix 15), false))⟩,
    ⟨(some (ix 17)), .nilCheck (.tmp (ix 16)), (some ((ix 15), false))⟩,
    ⟨(some (ix 18)), .faddr 0 (.tmp (ix 17)), (some ((ix 15), false))⟩,
    ⟨(some (ix 19)), .load none (.tmp (ix 18)), (some ((ix 15), false))⟩,
    ⟨(some (ix 20)), .bin .neq (.tmp (ix 19)) (.const (.str [])), (some ((ix 15), false))⟩,
    ⟨(some (ix 21)), .pick (.tmp (ix 15)) (.const (.bool true)) (.tmp (ix 20)), none⟩])
  (.cond (.tmp (ix 21))
    (.seq
    (.region [
      ⟨(some (ix 2)), .move (.const .snil), none⟩,
      ⟨(some (ix 3)), .move (.const (.int .i64 14)), none⟩])
    .ret)
    .skip))
  (.seq
  (.region [
    ⟨(some (ix 22)), .move (.tmp (ix 5)), none⟩,
    ⟨(some (ix 2)), .move (.tmp (ix 22)), none⟩,
    ⟨(some (ix 3)), .move (.const (.int .i64 0)), none⟩])
  .ret)))))⟩
-- lictor/lictorref16.SameList
def ef7 : EFunc := ⟨26, [.tmp (ix 4)],
  (.seq
  (.region [
    ⟨(some (ix 4)), .move (.const (.bool false)), none⟩])
  (.seq
  (.seq
  (.region [
    ⟨(some (ix 6)), .move (.tmp (ix 0)), none⟩,
    ⟨(some (ix 7)), .lenSl (.tmp (ix 6)), none⟩,
    ⟨(some (ix 8)), .move (.tmp (ix 1)), none⟩,
    ⟨(some (ix 9)), .lenSl (.tmp (ix 8)), none⟩,
    ⟨(some (ix 10)), .bin .neq (.tmp (ix 7)) (.tmp (ix 9)), none⟩])
  (.cond (.tmp (ix 10))
    (.seq
    (.region [
      ⟨(some (ix 4)), .move (.const (.bool false)), none⟩])
    .ret)
    .skip))
  (.seq
  (.seq
  (.region [
    ⟨(some (ix 11)), .move (.tmp (ix 0)), none⟩,
    ⟨(some (ix 12)), .lenSl (.tmp (ix 11)), none⟩,
    ⟨(some (ix 13)), .move (.const (.int .i64 0)), none⟩])
  (.block 0
    (.loop
      (.seq
      (.region [
        ⟨(some (ix 14)), .bin .lss (.tmp (ix 13)) (.tmp (ix 12)), none⟩])
      (.seq
      (.cond (.tmp (ix 14))
        .skip
        (.exit 0))
      (.seq
      (.block 1
        (.seq
        (.region [
          ⟨(some (ix 15)), .move (.tmp (ix 13)), none⟩,
          ⟨(some (ix 5)), .move (.tmp (ix 15)), none⟩])
        (.seq
        (.draw [
          ⟨(some (ix 16)), .move (.tmp (ix 0)), none⟩,
          ⟨(some (ix 17)), .move (.tmp (ix 5)), none⟩,
          ⟨(some (ix 18)), .iaddrS 5 (.tmp (ix 16)) (.tmp (ix 17)), none⟩,
          ⟨(some (ix 19)), .load (some 5) (.tmp (ix 18)), none⟩,
          ⟨(some (ix 20)), .move (.tmp (ix 1)), none⟩,
          ⟨(some (ix 21)), .move (.tmp (ix 5)), none⟩,
          ⟨(some (ix 22)), .iaddrS 5 (.tmp (ix 20)) (.tmp (ix 21)), none⟩,
          ⟨(some (ix 23)), .load (some 5) (.tmp (ix 22)), none⟩,
          ⟨(some (ix 24)), .eql true (.parts [(0, none, .int), (1, none, .str), (2, none, .str), (3, (some 2), (.parts [(0, none, .str), (1, none, .str)]))]) (.tmp (ix 19)) (.tmp (ix 23)), none⟩] [(0, 1), (0, 4), (1, 4), (2, 4), (3, 4), (0, 5), (1, 5), (2, 5), (3, 5), (4, 5), (0, 6), (1, 6), (2, 6), (3, 6), (0, 7), (1, 7), (2, 7), (3, 7)])
        (.cond (.tmp (ix 24))
          (.seq
          (.region [
            ⟨(some (ix 4)), .move (.const (.bool false)), none⟩])
          .ret)
          .skip))))
      (.region [
        ⟨(some (ix 25)), .bin .add (.tmp (ix 13)) (.const (.int .i64 1)), none⟩,
        ⟨(some (ix 13)), .move (.tmp (ix 25)), none⟩])))))))
  (.seq
  (.region [
    ⟨(some (ix 4)), .move (.const (.bool true)), none⟩])
  .ret))))⟩
-- lictor/change.Pack$1
def ef11 : EFunc := ⟨5, [.tmp (ix 2)],
  (.seq
  (.region [
    ⟨(some (ix 1)), .box 35 (.tmp (ix 0)), none⟩,
    ⟨(some (ix 2)), .move (.const (.bool false)), none⟩])
  (.seq
  (.region [
    ⟨(some (ix 3)), .call 13 [(.tmp (ix 1))], none⟩,
    ⟨(some (ix 4)), .call 12 [(.tmp (ix 3)), (.const (.func (.func 14) [] []))], none⟩,
    ⟨(some (ix 2)), .move (.tmp (ix 4)), none⟩])
  .ret))⟩
-- slices.ContainsFunc[[]*string,*string]
def ef12 : EFunc := ⟨9, [.tmp (ix 4)],
  (.seq
  (.region [
    ⟨(some (ix 4)), .move (.const (.bool false)), none⟩])
  (.seq
  (.region [
    ⟨(some (ix 5)), .move (.tmp (ix 0)), none⟩,
    ⟨(some (ix 6)), .move (.tmp (ix 1)), none⟩,
    ⟨(some (ix 7)), .call 39 [(.tmp (ix 5)), (.tmp (ix 6))], none⟩,
    ⟨(some (ix 8)), .bin .geq (.tmp (ix 7)) (.const (.int .i64 0)), none⟩,
    ⟨(some (ix 4)), .move (.tmp (ix 8)), none⟩])
  .ret))⟩
-- lictor/change.texts
def ef13 : EFunc := ⟨18, [.tmp (ix 2)],
  (.seq
  (.region [
    ⟨(some (ix 2)), .move (.const .snil), none⟩])
  (.seq
  (.draw [
    ⟨(some (ix 3)), .move (.tmp (ix 0)), none⟩,
    ⟨(some (ix 4)), .nilCheck (.tmp (ix 3)), none⟩,
    ⟨(some (ix 5)), .faddr 1 (.tmp (ix 4)), none⟩,
    ⟨(some (ix 6)), .move (.tmp (ix 0)), none⟩,
    ⟨(some (ix 7)), .nilCheck (.tmp (ix 6)), none⟩,
    ⟨(some (ix 8)), .faddr 2 (.tmp (ix 7)), none⟩,
    ⟨(some (ix 9)), .move (.tmp (ix 0)), none⟩,
    ⟨(some (ix 10)), .nilCheck (.tmp (ix 9)), none⟩,
    ⟨(some (ix 11)), .faddr 3 (.tmp (ix 10)), none⟩,
    ⟨(some (ix 12)), .faddr 0 (.tmp (ix 11)), none⟩,
    ⟨(some (ix 13)), .move (.tmp (ix 0)), none⟩,
    ⟨(some (ix 14)), .nilCheck (.tmp (ix 13)), none⟩,
    ⟨(some (ix 15)), .faddr 3 (.tmp (ix 14)), none⟩,
    ⟨(some (ix 16)), .faddr 1 (.tmp (ix 15)), none⟩,
    ⟨(some (ix 17)), .bslice 50 4 1 [.pnil] [(0, 1, (.tmp (ix 5))), (1, 1, (.tmp (ix 8))), (2, 1, (.tmp (ix 12))), (3, 1, (.tmp (ix 16)))], none⟩,
    ⟨(some (ix 2)), .move (.tmp (ix 17)), none⟩] [(0, 3), (1, 3), (2, 3), (0, 4), (1, 4), (2, 4), (0, 5), (1, 5), (2, 5), (0, 6), (1, 6), (2, 6), (3, 6), (4, 6), (5, 6), (0, 7), (1, 7), (2, 7), (3, 7), (4, 7), (5, 7), (0, 8), (1, 8), (2, 8), (3, 8), (4, 8), (5, 8), (0, 9), (1, 9), (2, 9), (3, 9), (4, 9), (5, 9), (0, 10), (1, 10), (2, 10), (3, 10), (4, 10), (5, 10), (6, 10), (7, 10), (8, 10), (9, 10), (0, 11), (1, 11), (2, 11), (3, 11), (4, 11), (5, 11), (6, 11), (7, 11), (8, 11), (9, 11), (0, 12), (1, 12), (2, 12), (3, 12), (4, 12), (5, 12), (6, 12), (7, 12), (8, 12), (9, 12), (0, 13), (1, 13), (2, 13), (3, 13), (4, 13), (5, 13), (6, 13), (7, 13), (8, 13), (9, 13)])
  .ret))⟩
-- lictor/change.Pack$1$1
def ef14 : EFunc := ⟨8, [.tmp (ix 2)],
  (.seq
  (.region [
    ⟨(some (ix 2)), .move (.const (.bool false)), none⟩])
  (.seq
  (.region [
    ⟨(some (ix 3)), .move (.tmp (ix 0)), none⟩,
    ⟨(some (ix 4)), .nilCheck (.tmp (ix 3)), none⟩,
    ⟨(some (ix 5)), .load none (.tmp (ix 4)), none⟩,
    ⟨(some (ix 6)), .lenStr (.tmp (ix 5)), none⟩,
    ⟨(some (ix 7)), .bin .gtr (.tmp (ix 6)) (.const (.int .i64 2048)), none⟩,
    ⟨(some (ix 2)), .move (.tmp (ix 7)), none⟩])
  .ret))⟩
-- slices.ContainsFunc[[]lictor/api.Change,lictor/api.Change]
def ef15 : EFunc := ⟨9, [.tmp (ix 4)],
  (.seq
  (.region [
    ⟨(some (ix 4)), .move (.const (.bool false)), none⟩])
  (.seq
  (.region [
    ⟨(some (ix 5)), .move (.tmp (ix 0)), none⟩,
    ⟨(some (ix 6)), .move (.tmp (ix 1)), none⟩,
    ⟨(some (ix 7)), .call 24 [(.tmp (ix 5)), (.tmp (ix 6))], none⟩,
    ⟨(some (ix 8)), .bin .geq (.tmp (ix 7)) (.const (.int .i64 0)), none⟩,
    ⟨(some (ix 4)), .move (.tmp (ix 8)), none⟩])
  .ret))⟩
-- lictor/change.Pack$2
def ef16 : EFunc := ⟨6, [.tmp (ix 2)],
  (.seq
  (.region [
    ⟨(some (ix 1)), .box 35 (.tmp (ix 0)), none⟩,
    ⟨(some (ix 2)), .move (.const (.bool false)), none⟩])
  (.seq
  (.region [
    ⟨(some (ix 3)), .load (some 5) (.tmp (ix 1)), none⟩,
    ⟨(some (ix 4)), .call 17 [(.tmp (ix 3))], none⟩,
    ⟨(some (ix 5)), .un .not (.tmp (ix 4)), none⟩,
    ⟨(some (ix 2)), .move (.tmp (ix 5)), none⟩])
  .ret))⟩
-- lictor/change.right
def ef17 : EFunc := ⟨36, [.tmp (ix 2)],
  (.seq
  (.region [
    ⟨(some (ix 1)), .box 35 (.tmp (ix 0)), none⟩,
    ⟨(some (ix 2)), .move (.const (.bool false)), none⟩])
  (.seq
  (.region [
    ⟨(some (ix 4)), .faddr 0 (.tmp (ix 1)), none⟩,
    ⟨(some (ix 5)), .load none (.tmp (ix 4)), none⟩,
    ⟨(some (ix 6)), .build [(.int .u8 0), (.str []), (.str []), (.str []), (.str [])] [(0, 1, (.tmp (ix 5)))], none⟩,
    ⟨(some (ix 3)), .alloc 35 [(.int .u8 0), (.str []), (.str []), (.str []), (.str [])], none⟩,
    ⟨none, .store 5 (.tmp (ix 3)) (.tmp (ix 6)), none⟩])
  (.seq
  (.seq
  (.region [
    ⟨(some (ix 7)), .faddr 0 (.tmp (ix 1)), none⟩,
    ⟨(some (ix 8)), .load none (.tmp (ix 7)), none⟩])
  (.block 0
    (.seq
    (.seq
    (.region [
      ⟨(some (ix 10)), .bin .eql (.tmp (ix 8)) (.const (.int .u8 1)), none⟩,
      ⟨(some (ix 9)), .move (.tmp (ix 10)), none⟩])
    (.cond (.tmp (ix 9))
      .skip
      (.region [
        ⟨(some (ix 11)), .bin .eql (.tmp (ix 8)) (.const (.int .u8 4)), none⟩,
        ⟨(some (ix 9)), .move (.tmp (ix 11)), none⟩])))
    (.cond (.tmp (ix 9))
      (.region [
        ⟨(some (ix 12)), .faddr 2 (.tmp (ix 1)), none⟩,
        ⟨(some (ix 13)), .load none (.tmp (ix 12)), none⟩,
        ⟨(some (ix 14)), .faddr 2 (.tmp (ix 3)), none⟩,
        ⟨none, .store 1 (.tmp (ix 14)) (.tmp (ix 13)), none⟩])
      (.seq
      (.region [
        ⟨(some (ix 16)), .bin .eql (.tmp (ix 8)) (.const (.int .u8 2)), none⟩,
        ⟨(some (ix 15)), .move (.tmp (ix 16)), none⟩])
      (.cond (.tmp (ix 15))
        (.draw [
          ⟨(some (ix 17)), .faddr 1 (.tmp (ix 1)), none⟩,
          ⟨(some (ix 18)), .load none (.tmp (ix 17)), none⟩,
          ⟨(some (ix 19)), .faddr 2 (.tmp (ix 1)), none⟩,
          ⟨(some (ix 20)), .load none (.tmp (ix 19)), none⟩,
          ⟨(some (ix 21)), .faddr 1 (.tmp (ix 3)), none⟩,
          ⟨none, .store 1 (.tmp (ix 21)) (.tmp (ix 18)), none⟩,
          ⟨(some (ix 22)), .faddr 2 (.tmp (ix 3)), none⟩,
          ⟨none, .store 1 (.tmp (ix 22)) (.tmp (ix 20)), none⟩] [(0, 2), (1, 2), (0, 3), (1, 3), (2, 4), (3, 4), (2, 5), (3, 5)])
        (.seq
        (.region [
          ⟨(some (ix 24)), .bin .eql (.tmp (ix 8)) (.const (.int .u8 3)), none⟩,
          ⟨(some (ix 23)), .move (.tmp (ix 24)), none⟩])
        (.cond (.tmp (ix 23))
          (.region [
            ⟨(some (ix 25)), .faddr 1 (.tmp (ix 1)), none⟩,
            ⟨(some (ix 26)), .load none (.tmp (ix 25)), none⟩,
            ⟨(some (ix 27)), .faddr 1 (.tmp (ix 3)), none⟩,
            ⟨none, .store 1 (.tmp (ix 27)) (.tmp (ix 26)), none⟩])
          (.seq
          (.region [
            ⟨(some (ix 29)), .bin .eql (.tmp (ix 8)) (.const (.int .u8 5)), none⟩,
            ⟨(some (ix 28)), .move (.tmp (ix 29)), none⟩])
          (.cond (.tmp (ix 28))
            (.region [
              ⟨(some (ix 30)), .faddr 3 (.tmp (ix 1)), none⟩,
              ⟨(some (ix 31)), .load (some 2) (.tmp (ix 30)), none⟩,
              ⟨(some (ix 32)), .faddr 3 (.tmp (ix 3)), none⟩,
              ⟨none, .store 2 (.tmp (ix 32)) (.tmp (ix 31)), none⟩])
            (.seq
            (.region [
              ⟨(some (ix 2)), .move (.const (.bool false)), none⟩])
            .ret)))))))))))
  (.seq
  (.region [
    ⟨(some (ix 33)), .load (some 5) (.tmp (ix 1)), none⟩,
    ⟨(some (ix 34)), .load (some 5) (.tmp (ix 3)), none⟩,
    ⟨(some (ix 35)), .eql false (.parts [(0, none, .int), (1, none, .str), (2, none, .str), (3, (some 2), (.parts [(0, none, .str), (1, none, .str)]))]) (.tmp (ix 33)) (.tmp (ix 34)), none⟩,
    ⟨(some (ix 2)), .move (.tmp (ix 35)), none⟩])
  .ret))))⟩
-- (*strings.Builder).WriteByte
def ef18 : EFunc := ⟨17, [.tmp (ix 4)],
  (.seq
  (.region [
    ⟨(some (ix 4)), .move (.const .nilIface), none⟩])
  (.seq
  (.region [
    ⟨(some (ix 5)), .move (.tmp (ix 0)), none⟩,
    ⟨(some (ix 6)), .call 40 [(.tmp (ix 5))], none⟩])
  (.seq
  (.region [
    ⟨(some (ix 7)), .move (.tmp (ix 0)), none⟩,
    ⟨(some (ix 8)), .move (.tmp (ix 0)), none⟩,
    ⟨(some (ix 9)), .nilCheck (.tmp (ix 8)), none⟩,
    ⟨(some (ix 10)), .faddr 1 (.tmp (ix 9)), none⟩,
    ⟨(some (ix 11)), .load none (.tmp (ix 10)), none⟩,
    ⟨(some (ix 12)), .move (.tmp (ix 1)), none⟩,
    ⟨(some (ix 13)), .bslice 5 1 1 [(.int .u8 0)] [(0, 1, (.tmp (ix 12)))], none⟩,
    ⟨(some (ix 14)), .append 5 1 1 (.tmp (ix 11)) (.tmp (ix 13)), none⟩,
    ⟨(some (ix 15)), .nilCheck (.tmp (ix 7)), none⟩,
    ⟨(some (ix 16)), .faddr 1 (.tmp (ix 15)), none⟩,
    ⟨none, .store 1 (.tmp (ix 16)) (.tmp (ix 14)), none⟩])
  (.seq
  (.region [
    ⟨(some (ix 4)), .move (.const .nilIface), none⟩])
  .ret))))⟩
-- (*strings.Builder).WriteString
def ef19 : EFunc := ⟨19, [.tmp (ix 4), .tmp (ix 5)],
  (.seq
  (.region [
    ⟨(some (ix 4)), .move (.const (.int .i64 0)), none⟩,
    ⟨(some (ix 5)), .move (.const .nilIface), none⟩])
  (.seq
  (.region [
    ⟨(some (ix 6)), .move (.tmp (ix 0)), none⟩,
    ⟨(some (ix 7)), .call 40 [(.tmp (ix 6))], none⟩])
  (.seq
  (.region [
    ⟨(some (ix 8)), .move (.tmp (ix 0)), none⟩,
    ⟨(some (ix 9)), .move (.tmp (ix 0)), none⟩,
    ⟨(some (ix 10)), .nilCheck (.tmp (ix 9)), none⟩,
    ⟨(some (ix 11)), .faddr 1 (.tmp (ix 10)), none⟩,
    ⟨(some (ix 12)), .load none (.tmp (ix 11)), none⟩,
    ⟨(some (ix 13)), .move (.tmp (ix 1)), none⟩,
    ⟨(some (ix 14)), .append 5 1 1 (.tmp (ix 12)) (.tmp (ix 13)), none⟩,
    ⟨(some (ix 15)), .nilCheck (.tmp (ix 8)), none⟩,
    ⟨(some (ix 16)), .faddr 1 (.tmp (ix 15)), none⟩,
    ⟨none, .store 1 (.tmp (ix 16)) (.tmp (ix 14)), none⟩])
  (.seq
  (.region [
    ⟨(some (ix 17)), .move (.tmp (ix 1)), none⟩,
    ⟨(some (ix 18)), .lenStr (.tmp (ix 17)), none⟩,
    ⟨(some (ix 4)), .move (.tmp (ix 18)), none⟩,
    ⟨(some (ix 5)), .move (.const .nilIface), none⟩])
  .ret))))⟩
-- lictor/change.Text
def ef20 : EFunc := ⟨9, [.tmp (ix 2)],
  (.seq
  (.region [
    ⟨(some (ix 2)), .move (.const (.str [])), none⟩])
  (.seq
  (.region [
    ⟨(some (ix 3)), .move (.tmp (ix 0)), none⟩,
    ⟨(some (ix 4)), .lenStr (.tmp (ix 3)), none⟩,
    ⟨(some (ix 5)), .convInt .u32 (.tmp (ix 4)), none⟩,
    ⟨(some (ix 6)), .call 41 [(.tmp (ix 5))], none⟩,
    ⟨(some (ix 7)), .move (.tmp (ix 0)), none⟩,
    ⟨(some (ix 8)), .bin .add (.tmp (ix 6)) (.tmp (ix 7)), none⟩,
    ⟨(some (ix 2)), .move (.tmp (ix 8)), none⟩])
  .ret))⟩
-- (*strings.Builder).String
def ef21 : EFunc := ⟨14, [.tmp (ix 2)],
  (.seq
  (.region [
    ⟨(some (ix 2)), .move (.const (.str [])), none⟩])
  (.seq
  (.draw [
    ⟨(some (ix 3)), .move (.tmp (ix 0)), none⟩,
    ⟨(some (ix 4)), .nilCheck (.tmp (ix 3)), none⟩,
    ⟨(some (ix 5)), .faddr 1 (.tmp (ix 4)), none⟩,
    ⟨(some (ix 6)), .load none (.tmp (ix 5)), none⟩,
    ⟨(some (ix 7)), .sliceData (.tmp (ix 6)), none⟩,
    ⟨(some (ix 8)), .move (.tmp (ix 0)), none⟩,
    ⟨(some (ix 9)), .nilCheck (.tmp (ix 8)), none⟩,
    ⟨(some (ix 10)), .faddr 1 (.tmp (ix 9)), none⟩,
    ⟨(some (ix 11)), .load none (.tmp (ix 10)), none⟩,
    ⟨(some (ix 12)), .lenSl (.tmp (ix 11)), none⟩,
    ⟨(some (ix 13)), .unsafeStr 5 (.tmp (ix 7)) (.tmp (ix 12)), none⟩,
    ⟨(some (ix 2)), .move (.tmp (ix 13)), none⟩] [(0, 5), (1, 5), (2, 5), (3, 5), (4, 5), (0, 6), (1, 6), (2, 6), (3, 6), (4, 6), (0, 7), (1, 7), (2, 7), (3, 7), (4, 7), (0, 8), (1, 8), (2, 8), (3, 8), (4, 8), (0, 9), (1, 9), (2, 9), (3, 9), (4, 9)])
  .ret))⟩
-- (*lictor/change.Left).Changes
def ef22 : EFunc := ⟨52, [.tmp (ix 2)],
  (.seq
  (.region [
    ⟨(some (ix 2)), .move (.const .snil), none⟩])
  (.seq
  (.region [
    ⟨(some (ix 3)), .move (.const .snil), none⟩])
  (.seq
  (.seq
  (.region [
    ⟨(some (ix 8)), .move (.tmp (ix 0)), none⟩,
    ⟨(some (ix 9)), .call 42 [(.tmp (ix 8))], none⟩,
    ⟨(some (ix 4)), .move (.tmp (ix 9)), none⟩])
  (.block 0
    (.loop
      (.seq
      (.seq
      (.region [
        ⟨(some (ix 10)), .move (.tmp (ix 4)), none⟩,
        ⟨(some (ix 11)), .bin .gtr (.tmp (ix 10)) (.const (.int .u8 0)), none⟩,
        ⟨(some (ix 12)), .move (.tmp (ix 11)), none⟩,
        ⟨(some (ix 13)), .move (.tmp (ix 0)), (some ((ix 12), true))⟩,
        ⟨(some (ix 14)), .nilCheck (.tmp (ix 13)), (some ((ix 12), true))⟩,
        ⟨(some (ix 15)), .faddr 1 (.tmp (ix 14)), (some ((ix 12), true))⟩,
        ⟨(some (ix 16)), .load none (.tmp (ix 15)), (some ((ix 12), true))⟩,
        ⟨(some (ix 17)), .un .not (.tmp (ix 16)), (some ((ix 12), true))⟩,
        ⟨(some (ix 18)), .pick (.tmp (ix 12)) (.tmp (ix 17)) (.const (.bool false)), none⟩])
      (.cond (.tmp (ix 18))
        .skip
        (.exit 0)))
      (.seq
      (.block 1
        (.seq
        (.region [
          ⟨(some (ix 21)), .move (.tmp (ix 0)), none⟩,
          ⟨(some (ix 22)), .call 42 [(.tmp (ix 21))], none⟩,
          ⟨(some (ix 23)), .build [(.int .u8 0), (.str []), (.str []), (.str []), (.str [])] [(0, 1, (.tmp (ix 22)))], none⟩,
          ⟨(some (ix 5)), .alloc 35 [(.int .u8 0), (.str []), (.str []), (.str []), (.str [])], none⟩,
          ⟨none, .store 5 (.tmp (ix 5)) (.tmp (ix 23)), none⟩])
        (.seq
        (.seq
        (.region [
          ⟨(some (ix 24)), .call 13 [(.tmp (ix 5))], none⟩,
          ⟨(some (ix 25)), .lenSl (.tmp (ix 24)), none⟩,
          ⟨(some (ix 26)), .move (.const (.int .i64 0)), none⟩])
        (.block 2
          (.loop
            (.seq
            (.region [
              ⟨(some (ix 27)), .bin .lss (.tmp (ix 26)) (.tmp (ix 25)), none⟩])
            (.seq
            (.cond (.tmp (ix 27))
              .skip
              (.exit 2))
            (.seq
            (.block 3
              (.seq
              (.region [
                ⟨(some (ix 28)), .iaddrS 1 (.tmp (ix 24)) (.tmp (ix 26)), none⟩,
                ⟨(some (ix 29)), .load none (.tmp (ix 28)), none⟩,
                ⟨(some (ix 7)), .move (.tmp (ix 29)), none⟩])
              (.region [
                ⟨(some (ix 30)), .move (.tmp (ix 7)), none⟩,
                ⟨(some (ix 31)), .move (.tmp (ix 0)), none⟩,
                ⟨(some (ix 32)), .call 43 [(.tmp (ix 31))], none⟩,
                ⟨(some (ix 33)), .nilCheck (.tmp (ix 30)), none⟩,
                ⟨none, .store 1 (.tmp (ix 33)) (.tmp (ix 32)), none⟩])))
            (.region [
              ⟨(some (ix 34)), .bin .add (.tmp (ix 26)) (.const (.int .i64 1)), none⟩,
              ⟨(some (ix 26)), .move (.tmp (ix 34)), none⟩])))))))
        (.seq
        (.region [
          ⟨(some (ix 35)), .move (.tmp (ix 0)), none⟩,
          ⟨(some (ix 36)), .move (.tmp (ix 0)), none⟩,
          ⟨(some (ix 37)), .nilCheck (.tmp (ix 36)), none⟩,
          ⟨(some (ix 38)), .faddr 1 (.tmp (ix 37)), none⟩,
          ⟨(some (ix 39)), .load none (.tmp (ix 38)), none⟩,
          ⟨(some (ix 40)), .move (.tmp (ix 39)), none⟩,
          ⟨(some (ix 41)), .load (some 5) (.tmp (ix 5)), (some ((ix 40), false))⟩,
          ⟨(some (ix 42)), .call 17 [(.tmp (ix 41))], (some ((ix 40), false))⟩,
          ⟨(some (ix 43)), .un .not (.tmp (ix 42)), (some ((ix 40), false))⟩,
          ⟨(some (ix 44)), .pick (.tmp (ix 40)) (.const (.bool true)) (.tmp (ix 43)), none⟩,
          ⟨(some (ix 45)), .nilCheck (.tmp (ix 35)), none⟩,
          ⟨(some (ix 46)), .faddr 1 (.tmp (ix 45)), none⟩,
          ⟨none, .store 1 (.tmp (ix 46)) (.tmp (ix 44)), none⟩])
        (.region [
          ⟨(some (ix 47)), .move (.tmp (ix 3)), none⟩,
          ⟨(some (ix 48)), .load (some 5) (.tmp (ix 5)), none⟩,
          ⟨(some (ix 49)), .bslice 35 1 5 [(.int .u8 0), (.str []), (.str []), (.str []), (.str [])] [(0, 5, (.tmp (ix 48)))], none⟩,
          ⟨(some (ix 50)), .append 35 5 72 (.tmp (ix 47)) (.tmp (ix 49)), none⟩,
          ⟨(some (ix 3)), .move (.tmp (ix 50)), none⟩])))))
      (.region [
        ⟨(some (ix 19)), .move (.tmp (ix 4)), none⟩,
        ⟨(some (ix 20)), .bin .sub (.tmp (ix 19)) (.const (.int .u8 1)), none⟩,
        ⟨(some (ix 4)), .move (.tmp (ix 20)), none⟩]))))))
  (.seq
  (.region [
    ⟨(some (ix 51)), .move (.tmp (ix 3)), none⟩,
    ⟨(some (ix 2)), .move (.tmp (ix 51)), none⟩])
  .ret))))⟩
-- slices.IndexFunc[[]lictor/api.Change,lictor/api.Change]
def ef24 : EFunc := ⟨19, [.tmp (ix 4)],
  (.seq
  (.region [
    ⟨(some (ix 4)), .move (.const (.int .i64 0)), none⟩])
  (.seq
  (.seq
  (.region [
    ⟨(some (ix 6)), .move (.tmp (ix 0)), none⟩,
    ⟨(some (ix 7)), .lenSl (.tmp (ix 6)), none⟩,
    ⟨(some (ix 8)), .move (.const (.int .i64 0)), none⟩])
  (.block 0
    (.loop
      (.seq
      (.region [
        ⟨(some (ix 9)), .bin .lss (.tmp (ix 8)) (.tmp (ix 7)), none⟩])
      (.seq
      (.cond (.tmp (ix 9))
        .skip
        (.exit 0))
      (.seq
      (.block 1
        (.seq
        (.region [
          ⟨(some (ix 10)), .move (.tmp (ix 8)), none⟩,
          ⟨(some (ix 5)), .move (.tmp (ix 10)), none⟩])
        (.seq
        (.region [
          ⟨(some (ix 11)), .move (.tmp (ix 1)), none⟩,
          ⟨(some (ix 12)), .move (.tmp (ix 0)), none⟩,
          ⟨(some (ix 13)), .move (.tmp (ix 5)), none⟩,
          ⟨(some (ix 14)), .iaddrS 5 (.tmp (ix 12)) (.tmp (ix 13)), none⟩,
          ⟨(some (ix 15)), .load (some 5) (.tmp (ix 14)), none⟩,
          ⟨(some (ix 16)), .callV (.tmp (ix 11)) [(.tmp (ix 15))], none⟩])
        (.cond (.tmp (ix 16))
          (.seq
          (.region [
            ⟨(some (ix 17)), .move (.tmp (ix 5)), none⟩,
            ⟨(some (ix 4)), .move (.tmp (ix 17)), none⟩])
          .ret)
          .skip))))
      (.region [
        ⟨(some (ix 18)), .bin .add (.tmp (ix 8)) (.const (.int .i64 1)), none⟩,
        ⟨(some (ix 8)), .move (.tmp (ix 18)), none⟩])))))))
  (.seq
  (.region [
    ⟨(some (ix 4)), .move (.const (.int .i64 (-1))), none⟩])
  .ret)))⟩
-- slices.IndexFunc[[]*string,*string]
def ef39 : EFunc := ⟨19, [.tmp (ix 4)],
  (.seq
  (.region [
    ⟨(some (ix 4)), .move (.const (.int .i64 0)), none⟩])
  (.seq
  (.seq
  (.region [
    ⟨(some (ix 6)), .move (.tmp (ix 0)), none⟩,
    ⟨(some (ix 7)), .lenSl (.tmp (ix 6)), none⟩,
    ⟨(some (ix 8)), .move (.const (.int .i64 0)), none⟩])
  (.block 0
    (.loop
      (.seq
      (.region [
        ⟨(some (ix 9)), .bin .lss (.tmp (ix 8)) (.tmp (ix 7)), none⟩])
      (.seq
      (.cond (.tmp (ix 9))
        .skip
        (.exit 0))
      (.seq
      (.block 1
        (.seq
        (.region [
          ⟨(some (ix 10)), .move (.tmp (ix 8)), none⟩,
          ⟨(some (ix 5)), .move (.tmp (ix 10)), none⟩])
        (.seq
        (.region [
          ⟨(some (ix 11)), .move (.tmp (ix 1)), none⟩,
          ⟨(some (ix 12)), .move (.tmp (ix 0)), none⟩,
          ⟨(some (ix 13)), .move (.tmp (ix 5)), none⟩,
          ⟨(some (ix 14)), .iaddrS 1 (.tmp (ix 12)) (.tmp (ix 13)), none⟩,
          ⟨(some (ix 15)), .load none (.tmp (ix 14)), none⟩,
          ⟨(some (ix 16)), .callV (.tmp (ix 11)) [(.tmp (ix 15))], none⟩])
        (.cond (.tmp (ix 16))
          (.seq
          (.region [
            ⟨(some (ix 17)), .move (.tmp (ix 5)), none⟩,
            ⟨(some (ix 4)), .move (.tmp (ix 17)), none⟩])
          .ret)
          .skip))))
      (.region [
        ⟨(some (ix 18)), .bin .add (.tmp (ix 8)) (.const (.int .i64 1)), none⟩,
        ⟨(some (ix 8)), .move (.tmp (ix 18)), none⟩])))))))
  (.seq
  (.region [
    ⟨(some (ix 4)), .move (.const (.int .i64 (-1))), none⟩])
  .ret)))⟩
-- (*strings.Builder).copyCheck
def ef40 : EFunc := ⟨20, [],
  (.seq
  (.region [
    ⟨(some (ix 2)), .move (.tmp (ix 0)), none⟩,
    ⟨(some (ix 3)), .nilCheck (.tmp (ix 2)), none⟩,
    ⟨(some (ix 4)), .faddr 0 (.tmp (ix 3)), none⟩,
    ⟨(some (ix 5)), .load none (.tmp (ix 4)), none⟩,
    ⟨(some (ix 6)), .eql false .ptr (.tmp (ix 5)) (.const .pnil), none⟩])
  (.cond (.tmp (ix 6))
    (.region [
      ⟨(some (ix 7)), .move (.tmp (ix 0)), none⟩,
      ⟨(some (ix 8)), .move (.tmp (ix 0)), none⟩,
      ⟨(some (ix 9)), .toUnsafe 59 (.tmp (ix 8)), none⟩,
      ⟨(some (ix 10)), .call 83 [(.tmp (ix 9))], none⟩,
      ⟨(some (ix 11)), .ofUnsafe 59 (.tmp (ix 10)), none⟩,
      ⟨(some (ix 12)), .nilCheck (.tmp (ix 7)), none⟩,
      ⟨(some (ix 13)), .faddr 0 (.tmp (ix 12)), none⟩,
      ⟨none, .store 1 (.tmp (ix 13)) (.tmp (ix 11)), none⟩])
    (.seq
    (.region [
      ⟨(some (ix 14)), .move (.tmp (ix 0)), none⟩,
      ⟨(some (ix 15)), .nilCheck (.tmp (ix 14)), none⟩,
      ⟨(some (ix 16)), .faddr 0 (.tmp (ix 15)), none⟩,
      ⟨(some (ix 17)), .load none (.tmp (ix 16)), none⟩,
      ⟨(some (ix 18)), .move (.tmp (ix 0)), none⟩,
      ⟨(some (ix 19)), .eql true .ptr (.tmp (ix 17)) (.tmp (ix 18)), none⟩])
    (.cond (.tmp (ix 19))
      .bad
      .skip))))⟩
-- lictor/crc.Put32
def ef41 : EFunc := ⟨7, [.tmp (ix 2)],
  (.seq
  (.region [
    ⟨(some (ix 2)), .move (.const (.str [])), none⟩])
  (.seq
  (.region [
    ⟨(some (ix 3)), .move (.tmp (ix 0)), none⟩,
    ⟨(some (ix 4)), .convInt .u64 (.tmp (ix 3)), none⟩,
    ⟨(some (ix 5)), .call 84 [(.tmp (ix 4))], none⟩,
    ⟨(some (ix 6)), .sliceStr (.tmp (ix 5)) none (some (.const (.int .i64 4))), none⟩,
    ⟨(some (ix 2)), .move (.tmp (ix 6)), none⟩])
  .ret))⟩
-- (*lictor/change.Left).Byte
def ef42 : EFunc := ⟨12, [.tmp (ix 2)],
  (.seq
  (.region [
    ⟨(some (ix 2)), .move (.const (.int .u8 0)), none⟩])
  (.seq
  (.region [
    ⟨(some (ix 4)), .move (.tmp (ix 0)), none⟩,
    ⟨(some (ix 5)), .call 85 [(.tmp (ix 4)), (.const (.int .i64 1))], none⟩,
    ⟨(some (ix 3)), .move (.tmp (ix 5)), none⟩])
  (.seq
  (.seq
  (.region [
    ⟨(some (ix 6)), .move (.tmp (ix 0)), none⟩,
    ⟨(some (ix 7)), .nilCheck (.tmp (ix 6)), none⟩,
    ⟨(some (ix 8)), .faddr 1 (.tmp (ix 7)), none⟩,
    ⟨(some (ix 9)), .load none (.tmp (ix 8)), none⟩])
  (.cond (.tmp (ix 9))
    (.seq
    (.region [
      ⟨(some (ix 2)), .move (.const (.int .u8 0)), none⟩])
    .ret)
    .skip))
  (.seq
  (.region [
    ⟨(some (ix 10)), .move (.tmp (ix 3)), none⟩,
    ⟨(some (ix 11)), .idxS (.tmp (ix 10)) (.const (.int .i64 0)), none⟩,
    ⟨(some (ix 2)), .move (.tmp (ix 11)), none⟩])
  .ret))))⟩
-- (*lictor/change.Left).Text
def ef43 : EFunc := ⟨26, [.tmp (ix 2)],
  (.seq
  (.region [
    ⟨(some (ix 2)), .move (.const (.str [])), none⟩])
  (.seq
  (.region [
    ⟨(some (ix 6)), .move (.tmp (ix 0)), none⟩,
    ⟨(some (ix 7)), .call 85 [(.tmp (ix 6)), (.const (.int .i64 4))], none⟩,
    ⟨(some (ix 8)), .call 86 [(.tmp (ix 7))], none⟩,
    ⟨(some (ix 5)), .move (.tmp (ix 8)), none⟩,
    ⟨(some (ix 9)), .extract (.tmp (ix 5)) 0, none⟩,
    ⟨(some (ix 10)), .extract (.tmp (ix 5)) 1, none⟩,
    ⟨(some (ix 3)), .move (.tmp (ix 9)), none⟩,
    ⟨(some (ix 4)), .move (.tmp (ix 10)), none⟩])
  (.seq
  (.region [
    ⟨(some (ix 11)), .move (.tmp (ix 0)), none⟩,
    ⟨(some (ix 12)), .move (.tmp (ix 0)), none⟩,
    ⟨(some (ix 13)), .nilCheck (.tmp (ix 12)), none⟩,
    ⟨(some (ix 14)), .faddr 1 (.tmp (ix 13)), none⟩,
    ⟨(some (ix 15)), .load none (.tmp (ix 14)), none⟩,
    ⟨(some (ix 16)), .move (.tmp (ix 15)), none⟩,
    ⟨(some (ix 17)), .move (.tmp (ix 3)), (some ((ix 16), false))⟩,
    ⟨(some (ix 18)), .bin .gtr (.tmp (ix 17)) (.const (.int .u32 2048)), (some ((ix 16), false))⟩,
    ⟨(some (ix 19)), .pick (.tmp (ix 16)) (.const (.bool true)) (.tmp (ix 18)), none⟩,
    ⟨(some (ix 20)), .nilCheck (.tmp (ix 11)), none⟩,
    ⟨(some (ix 21)), .faddr 1 (.tmp (ix 20)), none⟩,
    ⟨none, .store 1 (.tmp (ix 21)) (.tmp (ix 19)), none⟩])
  (.seq
  (.region [
    ⟨(some (ix 22)), .move (.tmp (ix 0)), none⟩,
    ⟨(some (ix 23)), .move (.tmp (ix 3)), none⟩,
    ⟨(some (ix 24)), .convInt .i64 (.tmp (ix 23)), none⟩,
    ⟨(some (ix 25)), .call 85 [(.tmp (ix 22)), (.tmp (ix 24))], none⟩,
    ⟨(some (ix 2)), .move (.tmp (ix 25)), none⟩])
  .ret))))⟩
-- lictor/crc.Put64
def ef84 : EFunc := ⟨18, [.tmp (ix 2)],
  (.seq
  (.region [
    ⟨(some (ix 2)), .move (.const (.str [])), none⟩])
  (.seq
  (.region [
    ⟨(some (ix 3)), .alloc 295 [(.int .u8 0), (.int .u8 0), (.int .u8 0), (.int .u8 0), (.int .u8 0), (.int .u8 0), (.int .u8 0), (.int .u8 0)], none⟩])
  (.seq
  (.seq
  (.region [
    ⟨(some (ix 5)), .move (.const (.int .i64 0)), none⟩])
  (.block 0
    (.loop
      (.seq
      (.region [
        ⟨(some (ix 6)), .bin .lss (.tmp (ix 5)) (.const (.int .i64 8)), none⟩])
      (.seq
      (.cond (.tmp (ix 6))
        .skip
        (.exit 0))
      (.seq
      (.block 1
        (.seq
        (.region [
          ⟨(some (ix 7)), .move (.tmp (ix 5)), none⟩,
          ⟨(some (ix 4)), .move (.tmp (ix 7)), none⟩])
        (.region [
          ⟨(some (ix 8)), .move (.tmp (ix 4)), none⟩,
          ⟨(some (ix 9)), .move (.tmp (ix 0)), none⟩,
          ⟨(some (ix 10)), .move (.tmp (ix 4)), none⟩,
          ⟨(some (ix 11)), .bin .mul (.const (.int .i64 8)) (.tmp (ix 10)), none⟩,
          ⟨(some (ix 12)), .bin .shr (.tmp (ix 9)) (.tmp (ix 11)), none⟩,
          ⟨(some (ix 13)), .convInt .u8 (.tmp (ix 12)), none⟩,
          ⟨(some (ix 14)), .iaddrA 8 1 (.tmp (ix 3)) (.tmp (ix 8)), none⟩,
          ⟨none, .store 1 (.tmp (ix 14)) (.tmp (ix 13)), none⟩])))
      (.region [
        ⟨(some (ix 15)), .bin .add (.tmp (ix 5)) (.const (.int .i64 1)), none⟩,
        ⟨(some (ix 5)), .move (.tmp (ix 15)), none⟩])))))))
  (.seq
  (.region [
    ⟨(some (ix 16)), .sliceArr 8 1 (.tmp (ix 3)) none none none, none⟩,
    ⟨(some (ix 17)), .toStr (.tmp (ix 16)), none⟩,
    ⟨(some (ix 2)), .move (.tmp (ix 17)), none⟩])
  .ret))))⟩
-- (*lictor/change.Left).Take
def ef85 : EFunc := ⟨42, [.tmp (ix 4)],
  (.seq
  (.region [
    ⟨(some (ix 4)), .move (.const (.str [])), none⟩])
  (.seq
  (.seq
  (.region [
    ⟨(some (ix 6)), .move (.tmp (ix 0)), none⟩,
    ⟨(some (ix 7)), .nilCheck (.tmp (ix 6)), none⟩,
    ⟨(some (ix 8)), .faddr 1 (.tmp (ix 7)), none⟩,
    ⟨(some (ix 9)), .load none (.tmp (ix 8)), none⟩,
    ⟨(some (ix 10)), .move (.tmp (ix 9)), none⟩,
    ⟨(some (ix 11)), .move (.tmp (ix 1)), (some ((ix 10), false))⟩,
    ⟨(some (ix 12)), .bin .lss (.tmp (ix 11)) (.const (.int .i64 0)), (some ((ix 10), false))⟩,
    ⟨(some (ix 13)), .pick (.tmp (ix 10)) (.const (.bool true)) (.tmp (ix 12)), none⟩,
    ⟨(some (ix 14)), .move (.tmp (ix 13)), none⟩,
    ⟨(some (ix 15)), .move (.tmp (ix 1)), (some ((ix 14), false))⟩,
    ⟨(some (ix 16)), .move (.tmp (ix 0)), (some ((ix 14), false))⟩,
    ⟨(some (ix 17)), .nilCheck (.tmp (ix 16)), (some ((ix 14), false))⟩,
    ⟨(some (ix 18)), .faddr 0 (.tmp (ix 17)), (some ((ix 14), false))⟩,
    ⟨(some (ix 19)), .load none (.tmp (ix 18)), (some ((ix 14), false))⟩,
    ⟨(some (ix 20)), .lenStr (.tmp (ix 19)), (some ((ix 14), false))⟩,
    ⟨(some (ix 21)), .bin .gtr (.tmp (ix 15)) (.tmp (ix 20)), (some ((ix 14), false))⟩,
    ⟨(some (ix 22)), .pick (.tmp (ix 14)) (.const (.bool true)) (.tmp (ix 21)), none⟩])
  (.cond (.tmp (ix 22))
    (.seq
    (.region [
      ⟨(some (ix 23)), .move (.tmp (ix 0)), none⟩,
      ⟨(some (ix 24)), .nilCheck (.tmp (ix 23)), none⟩,
      ⟨(some (ix 25)), .faddr 1 (.tmp (ix 24)), none⟩,
      ⟨none, .store 1 (.tmp (ix 25)) (.const (.bool true)), none⟩])
    (.seq
    (.region [
      ⟨(some (ix 4)), .move (.const (.str [])), none⟩])
    .ret))
    .skip))
  (.seq
  (.region [
    ⟨(some (ix 26)), .move (.tmp (ix 0)), none⟩,
    ⟨(some (ix 27)), .nilCheck (.tmp (ix 26)), none⟩,
    ⟨(some (ix 28)), .faddr 0 (.tmp (ix 27)), none⟩,
    ⟨(some (ix 29)), .load none (.tmp (ix 28)), none⟩,
    ⟨(some (ix 30)), .move (.tmp (ix 1)), none⟩,
    ⟨(some (ix 31)), .sliceStr (.tmp (ix 29)) none (some (.tmp (ix 30))), none⟩,
    ⟨(some (ix 5)), .move (.tmp (ix 31)), none⟩])
  (.seq
  (.region [
    ⟨(some (ix 32)), .move (.tmp (ix 0)), none⟩,
    ⟨(some (ix 33)), .move (.tmp (ix 0)), none⟩,
    ⟨(some (ix 34)), .nilCheck (.tmp (ix 33)), none⟩,
    ⟨(some (ix 35)), .faddr 0 (.tmp (ix 34)), none⟩,
    ⟨(some (ix 36)), .load none (.tmp (ix 35)), none⟩,
    ⟨(some (ix 37)), .move (.tmp (ix 1)), none⟩,
    ⟨(some (ix 38)), .sliceStr (.tmp (ix 36)) (some (.tmp (ix 37))) none, none⟩,
    ⟨(some (ix 39)), .nilCheck (.tmp (ix 32)), none⟩,
    ⟨(some (ix 40)), .faddr 0 (.tmp (ix 39)), none⟩,
    ⟨none, .store 1 (.tmp (ix 40)) (.tmp (ix 38)), none⟩])
  (.seq
  (.region [
    ⟨(some (ix 41)), .move (.tmp (ix 5)), none⟩,
    ⟨(some (ix 4)), .move (.tmp (ix 41)), none⟩])
  .ret)))))⟩
-- lictor/crc.Get32
def ef86 : EFunc := ⟨18, [.tmp (ix 2), .tmp (ix 3)],
  (.seq
  (.region [
    ⟨(some (ix 2)), .move (.const (.int .u32 0)), none⟩,
    ⟨(some (ix 3)), .move (.const (.int .i64 0)), none⟩])
  (.seq
  (.seq
  (.region [
    ⟨(some (ix 6)), .move (.tmp (ix 0)), none⟩,
    ⟨(some (ix 7)), .lenStr (.tmp (ix 6)), none⟩,
    ⟨(some (ix 8)), .bin .neq (.tmp (ix 7)) (.const (.int .i64 4)), none⟩])
  (.cond (.tmp (ix 8))
    (.seq
    (.region [
      ⟨(some (ix 2)), .move (.const (.int .u32 0)), none⟩,
      ⟨(some (ix 3)), .move (.const (.int .i64 14)), none⟩])
    .ret)
    .skip))
  (.seq
  (.region [
    ⟨(some (ix 10)), .move (.tmp (ix 0)), none⟩,
    ⟨(some (ix 11)), .bin .add (.tmp (ix 10)) (.const (.str [0, 0, 0, 0])), none⟩,
    ⟨(some (ix 12)), .call 193 [(.tmp (ix 11))], none⟩,
    ⟨(some (ix 9)), .move (.tmp (ix 12)), none⟩,
    ⟨(some (ix 13)), .extract (.tmp (ix 9)) 0, none⟩,
    ⟨(some (ix 14)), .extract (.tmp (ix 9)) 1, none⟩,
    ⟨(some (ix 4)), .move (.tmp (ix 13)), none⟩,
    ⟨(some (ix 5)), .move (.tmp (ix 14)), none⟩])
  (.seq
  (.region [
    ⟨(some (ix 15)), .move (.tmp (ix 4)), none⟩,
    ⟨(some (ix 16)), .convInt .u32 (.tmp (ix 15)), none⟩,
    ⟨(some (ix 17)), .move (.tmp (ix 5)), none⟩,
    ⟨(some (ix 2)), .move (.tmp (ix 16)), none⟩,
    ⟨(some (ix 3)), .move (.tmp (ix 17)), none⟩])
  .ret))))⟩
-- lictor/crc.Get64
def ef193 : EFunc := ⟨23, [.tmp (ix 2), .tmp (ix 3)],
  (.seq
  (.region [
    ⟨(some (ix 2)), .move (.const (.int .u64 0)), none⟩,
    ⟨(some (ix 3)), .move (.const (.int .i64 0)), none⟩])
  (.seq
  (.seq
  (.region [
    ⟨(some (ix 6)), .move (.tmp (ix 0)), none⟩,
    ⟨(some (ix 7)), .lenStr (.tmp (ix 6)), none⟩,
    ⟨(some (ix 8)), .bin .neq (.tmp (ix 7)) (.const (.int .i64 8)), none⟩])
  (.cond (.tmp (ix 8))
    (.seq
    (.region [
      ⟨(some (ix 2)), .move (.const (.int .u64 0)), none⟩,
      ⟨(some (ix 3)), .move (.const (.int .i64 14)), none⟩])
    .ret)
    .skip))
  (.seq
  (.region [
    ⟨(some (ix 4)), .move (.const (.int .u64 0)), none⟩])
  (.seq
  (.seq
  (.region [
    ⟨(some (ix 9)), .move (.const (.int .i64 0)), none⟩])
  (.block 0
    (.loop
      (.seq
      (.region [
        ⟨(some (ix 10)), .bin .lss (.tmp (ix 9)) (.const (.int .i64 8)), none⟩])
      (.seq
      (.cond (.tmp (ix 10))
        .skip
        (.exit 0))
      (.seq
      (.block 1
        (.seq
        (.region [
          ⟨(some (ix 11)), .move (.tmp (ix 9)), none⟩,
          ⟨(some (ix 5)), .move (.tmp (ix 11)), none⟩])
        (.region [
          ⟨(some (ix 12)), .move (.tmp (ix 4)), none⟩,
          ⟨(some (ix 13)), .move (.tmp (ix 0)), none⟩,
          ⟨(some (ix 14)), .move (.tmp (ix 5)), none⟩,
          ⟨(some (ix 15)), .idxS (.tmp (ix 13)) (.tmp (ix 14)), none⟩,
          ⟨(some (ix 16)), .convInt .u64 (.tmp (ix 15)), none⟩,
          ⟨(some (ix 17)), .move (.tmp (ix 5)), none⟩,
          ⟨(some (ix 18)), .bin .mul (.const (.int .i64 8)) (.tmp (ix 17)), none⟩,
          ⟨(some (ix 19)), .bin .shl (.tmp (ix 16)) (.tmp (ix 18)), none⟩,
          ⟨(some (ix 20)), .bin .or (.tmp (ix 12)) (.tmp (ix 19)), none⟩,
          ⟨(some (ix 4)), .move (.tmp (ix 20)), none⟩])))
      (.region [
        ⟨(some (ix 21)), .bin .add (.tmp (ix 9)) (.const (.int .i64 1)), none⟩,
        ⟨(some (ix 9)), .move (.tmp (ix 21)), none⟩])))))))
  (.seq
  (.region [
    ⟨(some (ix 22)), .move (.tmp (ix 4)), none⟩,
    ⟨(some (ix 2)), .move (.tmp (ix 22)), none⟩,
    ⟨(some (ix 3)), .move (.const (.int .i64 0)), none⟩])
  .ret)))))⟩
end Go.E.Fn
