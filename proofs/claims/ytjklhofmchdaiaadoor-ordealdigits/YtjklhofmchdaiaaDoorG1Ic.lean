/- Own layer of the proof: G1Ic. No conditions. -/
import Derived.Test.YtjklhofmchdaiaaDoorSx0
import Derived.Test.YtjklhofmchdaiaaDoorProg
set_option maxRecDepth 100000
set_option linter.unusedVariables false
open Go Go.Sx Go.Proofs
noncomputable section
namespace G1
noncomputable abbrev PP : Program := Tryd.prog

/- 3: slots: 0 s, 1 s, 3 h, 4 t, 5 i, 6 v
  loop: 3 h, 4 t, 5 i -/
abbrev ordealtop_OrdealDigits.id : FuncId := 3
def ordealtop_OrdealDigits.body0 : ICode :=
  (.seq (.seq (.reg [⟨some 15, .mv (.tmp 5), none⟩,
      ⟨some 16, .bin .lss (.tmp 15) (.const (.int .i64 64)), none⟩] [16, 5, 4, 3])
  (.cond (.tmp 16) [5, 4, 3] []
    .skip
    (.exit 0)))
  (.seq (.block 1 (.seq (.reg [⟨some 19, .mv (.tmp 5), none⟩,
        ⟨some 20, .bin .quo (.tmp 19) (.const (.int .i64 2)), none⟩,
        ⟨some 21, .idxA 32 1 (.tmp 3) (.tmp 20), none⟩,
        ⟨some 22, .ld (.int .u8) (.tmp 21), none⟩,
        ⟨some 23, .cvInt .u64 (.tmp 22), none⟩,
        ⟨some 24, .mv (.tmp 5), none⟩,
        ⟨some 25, .bin .rem (.tmp 24) (.const (.int .i64 2)), none⟩,
        ⟨some 26, .bin .mul (.const (.int .i64 4)) (.tmp 25), none⟩,
        ⟨some 27, .bin .sub (.const (.int .i64 4)) (.tmp 26), none⟩,
        ⟨some 28, .call 8 [(.tmp 23), (.tmp 27), (.const (.int .i64 4))], none⟩,
        ⟨some 6, .mv (.tmp 28), none⟩] [6, 5, 4, 3])
    (.seq (.regD (.first true ⟨some 29, .mv (.tmp 4), none⟩
    (.first true ⟨some 30, .mv (.tmp 5), none⟩
    (.first true ⟨some 31, .idxS (.tmp 29) (.tmp 30), none⟩
    (.first true ⟨some 32, .mv (.tmp 6), none⟩
    (.first true ⟨some 33, .idxS (.const (.string { data := #[48, 49, 50, 51, 52, 53, 54, 55, 56, 57, 97, 98, 99, 100, 101, 102] })) (.tmp 32), none⟩
    (.first true ⟨some 34, .bin .neq (.tmp 31) (.tmp 33), none⟩
    .nil)))))) [34, 5, 4, 3])
    (.cond (.tmp 34) [] [5, 4, 3]
      (.seq (.reg [⟨some 2, .mv (.const (.bool false)), none⟩] [2])
      .ret)
      .skip))))
  (.reg [⟨some 17, .mv (.tmp 5), none⟩,
      ⟨some 18, .bin .add (.tmp 17) (.const (.int .i64 1)), none⟩,
      ⟨some 5, .mv (.tmp 18), none⟩] [5, 4, 3])))
def ordealtop_OrdealDigits.ic : ICode :=
  (.seq (.reg [⟨some 2, .mv (.const (.bool false)), none⟩] [0])
  (.seq (.reg [⟨some 7, .mv (.tmp 0), none⟩,
      ⟨some 8, .call 6 [(.tmp 7), (.const (.int .i64 200))], none⟩,
      ⟨some 9, .call 5 [(.tmp 8)], none⟩,
      ⟨some 3, .alloc 23 (.agg (Array.replicate 32 (.int .u8 0))), none⟩,
      ⟨none, .stN 32 (.tmp 3) (.tmp 9), none⟩] [3])
  (.seq (.reg [⟨some 10, .ldN 32 (.tmp 3), none⟩,
      ⟨some 11, .call 7 [(.tmp 10)], none⟩,
      ⟨some 4, .mv (.tmp 11), none⟩] [4, 3])
  (.seq (.seq (.reg [⟨some 12, .mv (.tmp 4), none⟩,
      ⟨some 13, .lenS (.tmp 12), none⟩,
      ⟨some 14, .bin .neq (.tmp 13) (.const (.int .i64 64)), none⟩] [14, 4, 3])
  (.cond (.tmp 14) [] [4, 3]
    (.seq (.reg [⟨some 2, .mv (.const (.bool false)), none⟩] [2])
    .ret)
    .skip))
  (.seq (.seq (.reg [⟨some 5, .mv (.const (.int .i64 0)), none⟩] [5, 4, 3])
  (.block 0 (.loop ordealtop_OrdealDigits.body0)))
  (.seq (.reg [⟨some 35, .call 9 [], none⟩,
      ⟨some 2, .mv (.tmp 35), none⟩] [2])
  .ret))))))
def ordealtop_OrdealDigits.hints : List Hint := [⟨[0], .nil, default⟩, ⟨[3], .nil, default⟩, ⟨[4, 3], .nil, default⟩, ⟨[14, 4, 3], .nil, default⟩, ⟨[], .nil, default⟩, ⟨[4, 3], .nil, default⟩, ⟨[2], .nil, default⟩, ⟨[5, 4, 3], .nil, default⟩, ⟨[16, 5, 4, 3], .nil, default⟩, ⟨[5, 4, 3], .nil, default⟩, ⟨[], .nil, default⟩, ⟨[6, 5, 4, 3], .nil, default⟩, ⟨[34, 5, 4, 3], (.first true 0 26 (.first true 1 25 (.first true 2 27 (.first true 3 7 (.first true 4 15 (.first true 5 31 .nil)))))), ⟨[0, 0, 3, 0, 8, 20], [536870912, 1073741824, 2147483648, 4294967296, 8589934592, 17179869184], [16, 32, 1610612736, 64, 4294967296, 10737418240], 63, 0⟩⟩, ⟨[], .nil, default⟩, ⟨[5, 4, 3], .nil, default⟩, ⟨[2], .nil, default⟩, ⟨[5, 4, 3], .nil, default⟩, ⟨[2], .nil, default⟩]
theorem ordealtop_OrdealDigits.comp : ∃ c, Tryd.f3.body = some c ∧ comp PP 36 c ordealtop_OrdealDigits.hints = some (ordealtop_OrdealDigits.ic, []) := ⟨_, rfl, by kernel_rfl⟩
theorem ordealtop_OrdealDigits.res : compRess PP Tryd.f3.results.toList = some [.mv (.tmp 2)] := by kernel_rfl
theorem ordealtop_OrdealDigits.start {args : List Value} {w : World} {R : Value → World → Prop} (ha : args.length ≤ 36)
    (h : IW PP ordealtop_OrdealDigits.ic [] (argEnv args 0) w (RQ PP [.mv (.tmp 2)] R)) : Ret PP ordealtop_OrdealDigits.id args.toArray w R := by
  obtain ⟨c, hb, hc⟩ := ordealtop_OrdealDigits.comp
  exact ret_iw Tryd.func3 hb rfl hc ordealtop_OrdealDigits.res ha h

/- 4: slots: 0 l, 1 cut, 2 l, 3 cut, 5 w, 6 n, 7 i, 8 s, 9 h, 10 r, 11 i, 12 at, 13 parts, 14 sum, 15 seal, 16 x
  loop: 0 l, 1 cut, 5 w, 6 n, 7 i
  loop: 0 l, 1 cut, 6 n, 8 s, 10 r, 11 i -/
abbrev ordealtop_OrdealSealed.id : FuncId := 4
def ordealtop_OrdealSealed.body1 : ICode :=
  (.seq (.seq (.reg [⟨some 46, .mv (.tmp 11), none⟩,
      ⟨some 47, .mv (.tmp 6), none⟩,
      ⟨some 48, .bin .lss (.tmp 46) (.tmp 47), none⟩] [48, 11, 10, 8, 6, 1, 0])
  (.cond (.tmp 48) [11, 10, 8, 6, 1, 0] [10, 8, 1]
    .skip
    (.exit 2)))
  (.seq (.block 3 (.seq (.regD (.first true ⟨some 51, .mv (.tmp 10), none⟩
    (.first true ⟨some 54, .mv (.tmp 0), none⟩
    (.first true ⟨some 55, .mv (.tmp 11), none⟩
    (.first true ⟨some 56, .idxL 1 (.tmp 54) (.tmp 55), none⟩
    (.first false ⟨some 57, .ld (.int .u64) (.tmp 56), none⟩
    (.first true ⟨some 58, .cvInt .i64 (.tmp 57), none⟩
    (.one true ⟨some 52, .call 18 [(.tmp 51)], none⟩
    (.one true ⟨some 53, .call 17 [(.tmp 52)], none⟩
    (.first true ⟨some 59, .bin .neq (.tmp 53) (.tmp 58), none⟩
    .nil))))))))) [59, 11, 10, 8, 6, 1, 0])
    (.cond (.tmp 59) [] [11, 10, 8, 6, 1, 0]
      (.seq (.reg [⟨some 4, .mv (.const (.bool false)), none⟩] [4])
      .ret)
      .skip)))
  (.reg [⟨some 49, .mv (.tmp 11), none⟩,
      ⟨some 50, .bin .add (.tmp 49) (.const (.int .i64 1)), none⟩,
      ⟨some 11, .mv (.tmp 50), none⟩] [11, 10, 8, 6, 1, 0])))
def ordealtop_OrdealSealed.body0 : ICode :=
  (.seq (.seq (.reg [⟨some 22, .mv (.tmp 7), none⟩,
      ⟨some 23, .mv (.tmp 6), none⟩,
      ⟨some 24, .bin .lss (.tmp 22) (.tmp 23), none⟩] [24, 7, 6, 5, 1, 0])
  (.cond (.tmp 24) [7, 6, 5, 1, 0] [6, 5, 1, 0]
    .skip
    (.exit 0)))
  (.seq (.block 1 (.reg [⟨some 27, .mv (.tmp 0), none⟩,
        ⟨some 28, .mv (.tmp 7), none⟩,
        ⟨some 29, .idxL 1 (.tmp 27) (.tmp 28), none⟩,
        ⟨some 30, .ld (.int .u64) (.tmp 29), none⟩,
        ⟨some 31, .cvInt .i64 (.tmp 30), none⟩,
        ⟨some 32, .call 11 [(.tmp 31)], none⟩,
        ⟨some 33, .call 10 [(.tmp 5), (.tmp 32)], none⟩] [7, 6, 5, 1, 0]))
  (.reg [⟨some 25, .mv (.tmp 7), none⟩,
      ⟨some 26, .bin .add (.tmp 25) (.const (.int .i64 1)), none⟩,
      ⟨some 7, .mv (.tmp 26), none⟩] [7, 6, 5, 1, 0])))
def ordealtop_OrdealSealed.ic : ICode :=
  (.seq (.reg [⟨some 4, .mv (.const (.bool false)), none⟩] [1, 0])
  (.seq (.seq (.reg [⟨some 17, .call 9 [], none⟩,
      ⟨some 18, .un .not (.tmp 17), none⟩] [18, 1, 0])
  (.cond (.tmp 18) [] [1, 0]
    (.seq (.reg [⟨some 4, .mv (.const (.bool false)), none⟩] [4])
    .ret)
    .skip))
  (.seq (.reg [⟨some 5, .alloc 34 (.agg #[.slice none 0 0]), none⟩] [5, 1, 0])
  (.seq (.reg [⟨some 19, .mv (.tmp 0), none⟩,
      ⟨some 20, .lenL (.tmp 19), none⟩,
      ⟨some 21, .minI (.tmp 20) (.const (.int .i64 20)), none⟩,
      ⟨some 6, .mv (.tmp 21), none⟩] [6, 5, 1, 0])
  (.seq (.seq (.reg [⟨some 7, .mv (.const (.int .i64 0)), none⟩] [7, 6, 5, 1, 0])
  (.block 0 (.loop ordealtop_OrdealSealed.body0)))
  (.seq (.reg [⟨some 34, .call 12 [(.tmp 5)], none⟩,
      ⟨some 8, .mv (.tmp 34), none⟩] [8, 6, 5, 1, 0])
  (.seq (.reg [⟨some 35, .mv (.tmp 8), none⟩,
      ⟨some 36, .call 5 [(.tmp 35)], none⟩,
      ⟨some 9, .alloc 23 (.agg (Array.replicate 32 (.int .u8 0))), none⟩,
      ⟨none, .stN 32 (.tmp 9) (.tmp 36), none⟩] [9, 8, 6, 5, 1, 0])
  (.seq (.reg [⟨some 37, .mv (.tmp 8), none⟩,
      ⟨some 38, .call 14 [(.tmp 37)], none⟩,
      ⟨some 39, .cvInt .u64 (.tmp 38), none⟩,
      ⟨some 40, .call 13 [(.tmp 5), (.tmp 39), (.const (.int .i64 4))], none⟩] [9, 8, 6, 5, 1, 0])
  (.seq (.reg [⟨some 41, .slcA 32 1 (.tmp 9) none none, none⟩,
      ⟨some 42, .cvStr (.tmp 41), none⟩,
      ⟨some 43, .call 15 [(.tmp 5), (.tmp 42)], none⟩] [8, 6, 5, 1, 0])
  (.seq (.reg [⟨some 44, .call 12 [(.tmp 5)], none⟩,
      ⟨some 45, .call 16 [(.tmp 44)], none⟩,
      ⟨some 10, .mv (.tmp 45), none⟩] [10, 8, 6, 1, 0])
  (.seq (.seq (.reg [⟨some 11, .mv (.const (.int .i64 0)), none⟩] [11, 10, 8, 6, 1, 0])
  (.block 2 (.loop ordealtop_OrdealSealed.body1)))
  (.seq (.reg [⟨some 60, .mv (.tmp 1), none⟩,
      ⟨some 61, .maxI (.tmp 60) (.const (.int .i64 0)), none⟩,
      ⟨some 62, .mv (.tmp 8), none⟩,
      ⟨some 63, .lenS (.tmp 62), none⟩,
      ⟨some 64, .minI (.tmp 61) (.tmp 63), none⟩,
      ⟨some 12, .mv (.tmp 64), none⟩] [12, 10, 8])
  (.seq (.reg [⟨some 13, .alloc 48 (.agg #[.bool false, .int .u32 0, .int .u32 0, .int .u32 0, .int .u32 0, .int .u32 0, .int .u32 0, .int .u32 0, .int .u32 0, .slice none 0 0, .int .u64 0]), none⟩] [13, 12, 10, 8])
  (.seq (.reg [⟨some 65, .mv (.tmp 8), none⟩,
      ⟨some 66, .mv (.tmp 12), none⟩,
      ⟨some 67, .slcS (.tmp 65) none (some (.tmp 66)), none⟩,
      ⟨some 68, .call 19 [(.tmp 13), (.tmp 67)], none⟩] [13, 12, 10, 8])
  (.seq (.reg [⟨some 69, .mv (.tmp 8), none⟩,
      ⟨some 70, .mv (.tmp 12), none⟩,
      ⟨some 71, .slcS (.tmp 69) (some (.tmp 70)) none, none⟩,
      ⟨some 72, .call 19 [(.tmp 13), (.tmp 71)], none⟩] [13, 12, 10, 8])
  (.seq (.reg [⟨some 73, .mv (.tmp 10), none⟩,
      ⟨some 74, .call 20 [(.tmp 73), (.const (.int .i64 4))], none⟩,
      ⟨some 14, .mv (.tmp 74), none⟩] [14, 13, 12, 10, 8])
  (.seq (.reg [⟨some 75, .mv (.tmp 10), none⟩,
      ⟨some 76, .call 21 [(.tmp 75), (.const (.int .i64 32))], none⟩,
      ⟨some 15, .mv (.tmp 76), none⟩] [15, 14, 13, 12, 10, 8])
  (.seq (.reg [⟨some 77, .call 22 [(.tmp 13)], none⟩,
      ⟨some 16, .alloc 23 (.agg (Array.replicate 32 (.int .u8 0))), none⟩,
      ⟨none, .stN 32 (.tmp 16) (.tmp 77), none⟩] [16, 15, 14, 12, 10, 8])
  (.seq (.regD (.first true ⟨some 78, .mv (.tmp 10), none⟩
    (.one false ⟨some 79, .call 23 [(.tmp 78)], none⟩
    (.first true ⟨some 80, .bin .eql (.tmp 79) (.const (.int .i64 0)), none⟩
    (.first true ⟨some 81, .mv (.tmp 80), none⟩
    (.first true ⟨some 82, .mv (.tmp 14), some (81, true)⟩
    (.first true ⟨some 83, .cvInt .u32 (.tmp 82), some (81, true)⟩
    (.first true ⟨some 84, .mv (.tmp 8), some (81, true)⟩
    (.first true ⟨some 85, .mv (.tmp 12), some (81, true)⟩
    (.first true ⟨some 86, .slcS (.tmp 84) none (some (.tmp 85)), some (81, true)⟩
    (.first true ⟨some 88, .mv (.tmp 8), some (81, true)⟩
    (.first true ⟨some 89, .mv (.tmp 12), some (81, true)⟩
    (.first true ⟨some 90, .slcS (.tmp 88) (some (.tmp 89)) none, some (81, true)⟩
    (.one false ⟨some 87, .call 14 [(.tmp 86)], some (81, true)⟩
    (.one false ⟨some 91, .call 24 [(.tmp 87), (.tmp 90)], some (81, true)⟩
    (.first true ⟨some 92, .bin .eql (.tmp 83) (.tmp 91), some (81, true)⟩
    (.first true ⟨some 93, .pick (.tmp 81) (.tmp 92) (.const (.bool false)), none⟩
    (.first true ⟨some 94, .mv (.tmp 93), none⟩
    (.first true ⟨some 95, .mv (.tmp 15), some (94, true)⟩
    (.first true ⟨some 96, .slcA 32 1 (.tmp 16) none none, some (94, true)⟩
    (.one false ⟨some 97, .cvStr (.tmp 96), some (94, true)⟩
    (.first true ⟨some 98, .bin .eql (.tmp 95) (.tmp 97), some (94, true)⟩
    (.first true ⟨some 99, .pick (.tmp 94) (.tmp 98) (.const (.bool false)), none⟩
    (.first true ⟨some 4, .mv (.tmp 99), none⟩
    .nil))))))))))))))))))))))) [4])
  .ret)))))))))))))))))))
def ordealtop_OrdealSealed.hints : List Hint := [⟨[1, 0], .nil, default⟩, ⟨[18, 1, 0], .nil, default⟩, ⟨[], .nil, default⟩, ⟨[1, 0], .nil, default⟩, ⟨[4], .nil, default⟩, ⟨[5, 1, 0], .nil, default⟩, ⟨[6, 5, 1, 0], .nil, default⟩, ⟨[7, 6, 5, 1, 0], .nil, default⟩, ⟨[24, 7, 6, 5, 1, 0], .nil, default⟩, ⟨[7, 6, 5, 1, 0], .nil, default⟩, ⟨[6, 5, 1, 0], .nil, default⟩, ⟨[7, 6, 5, 1, 0], .nil, default⟩, ⟨[7, 6, 5, 1, 0], .nil, default⟩, ⟨[8, 6, 5, 1, 0], .nil, default⟩, ⟨[9, 8, 6, 5, 1, 0], .nil, default⟩, ⟨[9, 8, 6, 5, 1, 0], .nil, default⟩, ⟨[8, 6, 5, 1, 0], .nil, default⟩, ⟨[10, 8, 6, 1, 0], .nil, default⟩, ⟨[11, 10, 8, 6, 1, 0], .nil, default⟩, ⟨[48, 11, 10, 8, 6, 1, 0], .nil, default⟩, ⟨[11, 10, 8, 6, 1, 0], .nil, default⟩, ⟨[10, 8, 1], .nil, default⟩, ⟨[59, 11, 10, 8, 6, 1, 0], (.first true 0 248 (.first true 3 23 (.first true 4 15 (.first true 5 31 (.first false 6 63 (.first true 7 127 (.one true 1 (.one true 2 (.first true 8 255 .nil))))))))), ⟨[0, 1, 2, 0, 0, 24, 32, 64, 132], [2251799813685248, 4503599627370496, 9007199254740992, 18014398509481984, 36028797018963968, 72057594037927936, 144115188075855872, 288230376151711744, 576460752303423488], [1024, 2251799813685248, 4503599627370496, 1, 2048, 54043195528445952, 72057594037927936, 144115188075855872, 297237575406452736], 505, 64⟩⟩, ⟨[], .nil, default⟩, ⟨[11, 10, 8, 6, 1, 0], .nil, default⟩, ⟨[4], .nil, default⟩, ⟨[11, 10, 8, 6, 1, 0], .nil, default⟩, ⟨[12, 10, 8], .nil, default⟩, ⟨[13, 12, 10, 8], .nil, default⟩, ⟨[13, 12, 10, 8], .nil, default⟩, ⟨[13, 12, 10, 8], .nil, default⟩, ⟨[14, 13, 12, 10, 8], .nil, default⟩, ⟨[15, 14, 13, 12, 10, 8], .nil, default⟩, ⟨[16, 15, 14, 12, 10, 8], .nil, default⟩, ⟨[4], (.first true 0 0 (.one false 1 (.first true 2 3 (.first true 3 7 (.first true 4 16335 (.first true 5 16351 (.first true 6 7359 (.first true 7 7295 (.first true 8 7423 (.first true 10 3071 (.first true 11 2047 (.first true 12 4095 (.one false 9 (.one false 13 (.first true 14 16383 (.first true 15 32767 (.first true 16 65535 (.first true 17 917503 (.first true 18 262143 (.one false 19 (.first true 20 1048575 (.first true 21 2097151 (.first true 22 4194303 .nil))))))))))))))))))))))), ⟨[0, 1, 2, 6, 8, 24, 8, 8, 200, 264, 8, 8, 3080, 4616, 8232, 16392, 40960, 65536, 65536, 327680, 720896, 1114112, 4194303], [302231454903657293676544, 604462909807314587353088, 1208925819614629174706176, 2417851639229258349412352, 4835703278458516698824704, 9671406556917033397649408, 19342813113834066795298816, 38685626227668133590597632, 77371252455336267181195264, 154742504910672534362390528, 309485009821345068724781056, 618970019642690137449562112, 1237940039285380274899124224, 2475880078570760549798248448, 4951760157141521099596496896, 9903520314283042199192993792, 19807040628566084398385987584, 39614081257132168796771975168, 79228162514264337593543950336, 158456325028528675187087900672, 316912650057057350374175801344, 633825300114114700748351602688, 16], [1024, 302231454903657293676544, 604462909807314587353088, 1208925819614629174706176, 2417851639229258349428736, 7253554917687775048237056, 2417851639229258349412608, 2417851639229258349416448, 60446290980731458735308800, 79789104094565525530607616, 2417851639229258349412608, 2417851639229258349416448, 930872881103264464523755520, 1395100395835282067610927104, 2487969336766906841545310208, 4954178008780750357945909248, 9903520314283042199192993792, 19807040628566084398386020352, 19807040628566084398386053120, 99035203142830421991929937920, 217877446914226928382245863424, 336719690685623434772561788928, 633825300114114700748351602688], 8379901, 524288⟩⟩]
theorem ordealtop_OrdealSealed.comp : ∃ c, Tryd.f4.body = some c ∧ comp PP 100 c ordealtop_OrdealSealed.hints = some (ordealtop_OrdealSealed.ic, []) := ⟨_, rfl, by kernel_rfl⟩
theorem ordealtop_OrdealSealed.res : compRess PP Tryd.f4.results.toList = some [.mv (.tmp 4)] := by kernel_rfl
theorem ordealtop_OrdealSealed.start {args : List Value} {w : World} {R : Value → World → Prop} (ha : args.length ≤ 100)
    (h : IW PP ordealtop_OrdealSealed.ic [] (argEnv args 0) w (RQ PP [.mv (.tmp 4)] R)) : Ret PP ordealtop_OrdealSealed.id args.toArray w R := by
  obtain ⟨c, hb, hc⟩ := ordealtop_OrdealSealed.comp
  exact ret_iw Tryd.func4 hb rfl hc ordealtop_OrdealSealed.res ha h

/- 5: slots: 0 s, 1 s, 3 h -/
abbrev sha_Of.id : FuncId := 5
def sha_Of.ic : ICode :=
  (.seq (.reg [⟨some 2, .alloc 23 (.agg (Array.replicate 32 (.int .u8 0))), none⟩] [2, 0])
  (.seq (.reg [⟨some 3, .alloc 48 (.agg #[.bool false, .int .u32 0, .int .u32 0, .int .u32 0, .int .u32 0, .int .u32 0, .int .u32 0, .int .u32 0, .int .u32 0, .slice none 0 0, .int .u64 0]), none⟩] [3, 2, 0])
  (.seq (.reg [⟨some 4, .mv (.tmp 0), none⟩,
      ⟨some 5, .call 19 [(.tmp 3), (.tmp 4)], none⟩] [3, 2])
  (.seq (.reg [⟨some 6, .call 22 [(.tmp 3)], none⟩,
      ⟨none, .stN 32 (.tmp 2) (.tmp 6), none⟩] [2])
  .ret))))
def sha_Of.hints : List Hint := [⟨[2, 0], .nil, default⟩, ⟨[3, 2, 0], .nil, default⟩, ⟨[3, 2], .nil, default⟩, ⟨[2], .nil, default⟩]
theorem sha_Of.comp : ∃ c, Tryd.f5.body = some c ∧ comp PP 7 c sha_Of.hints = some (sha_Of.ic, []) := ⟨_, rfl, by kernel_rfl⟩
theorem sha_Of.res : compRess PP Tryd.f5.results.toList = some [.ldN 32 (.tmp 2)] := by kernel_rfl
theorem sha_Of.start {args : List Value} {w : World} {R : Value → World → Prop} (ha : args.length ≤ 7)
    (h : IW PP sha_Of.ic [] (argEnv args 0) w (RQ PP [.ldN 32 (.tmp 2)] R)) : Ret PP sha_Of.id args.toArray w R := by
  obtain ⟨c, hb, hc⟩ := sha_Of.comp
  exact ret_iw Tryd.func5 hb rfl hc sha_Of.res ha h

/- 6: slots: 0 s, 1 n, 2 s, 3 n -/
abbrev ordeallaw01_Cut.id : FuncId := 6
def ordeallaw01_Cut.ic : ICode :=
  (.seq (.reg [⟨some 4, .mv (.const (.string { data := #[] })), none⟩] [1, 0])
  (.seq (.seq (.reg [⟨some 5, .mv (.tmp 0), none⟩,
      ⟨some 6, .lenS (.tmp 5), none⟩,
      ⟨some 7, .mv (.tmp 1), none⟩,
      ⟨some 8, .bin .gtr (.tmp 6) (.tmp 7), none⟩] [8, 1, 0])
  (.cond (.tmp 8) [1, 0] [0]
    (.seq (.reg [⟨some 9, .mv (.tmp 0), none⟩,
        ⟨some 10, .mv (.tmp 1), none⟩,
        ⟨some 11, .slcS (.tmp 9) none (some (.tmp 10)), none⟩,
        ⟨some 4, .mv (.tmp 11), none⟩] [4])
    .ret)
    .skip))
  (.seq (.reg [⟨some 12, .mv (.tmp 0), none⟩,
      ⟨some 4, .mv (.tmp 12), none⟩] [4])
  .ret)))
def ordeallaw01_Cut.hints : List Hint := [⟨[1, 0], .nil, default⟩, ⟨[8, 1, 0], .nil, default⟩, ⟨[1, 0], .nil, default⟩, ⟨[0], .nil, default⟩, ⟨[4], .nil, default⟩, ⟨[4], .nil, default⟩]
theorem ordeallaw01_Cut.comp : ∃ c, Tryd.f6.body = some c ∧ comp PP 13 c ordeallaw01_Cut.hints = some (ordeallaw01_Cut.ic, []) := ⟨_, rfl, by kernel_rfl⟩
theorem ordeallaw01_Cut.res : compRess PP Tryd.f6.results.toList = some [.mv (.tmp 4)] := by kernel_rfl
theorem ordeallaw01_Cut.start {args : List Value} {w : World} {R : Value → World → Prop} (ha : args.length ≤ 13)
    (h : IW PP ordeallaw01_Cut.ic [] (argEnv args 0) w (RQ PP [.mv (.tmp 4)] R)) : Ret PP ordeallaw01_Cut.id args.toArray w R := by
  obtain ⟨c, hb, hc⟩ := ordeallaw01_Cut.comp
  exact ret_iw Tryd.func6 hb rfl hc ordeallaw01_Cut.res ha h

/- 7: slots: 0 h, 1 h, 3 out, 4 _, 5 c
  loop: 3 out, 6 , 7  -/
abbrev sha_Text.id : FuncId := 7
def sha_Text.body0 : ICode :=
  (.seq (.reg [⟨some 8, .bin .lss (.tmp 7) (.const (.int .i64 32)), none⟩] [8, 7, 6, 3])
  (.seq (.cond (.tmp 8) [7, 6, 3] [3]
    .skip
    (.exit 0))
  (.seq (.block 1 (.seq (.reg [⟨some 9, .idxV (.int .u8) 32 (.tmp 6) (.tmp 7), none⟩,
        ⟨some 5, .mv (.tmp 9), none⟩] [7, 6, 5, 3])
    (.regD (.first true ⟨some 10, .mv (.tmp 3), none⟩
    (.first true ⟨some 11, .mv (.tmp 5), none⟩
    (.first true ⟨some 12, .shrC 4 (.tmp 11), none⟩
    (.first true ⟨some 13, .idxS (.const (.string { data := #[48, 49, 50, 51, 52, 53, 54, 55, 56, 57, 97, 98, 99, 100, 101, 102] })) (.tmp 12), none⟩
    (.first true ⟨some 14, .mv (.tmp 5), none⟩
    (.first true ⟨some 15, .bin .and (.tmp 14) (.const (.int .u8 15)), none⟩
    (.first true ⟨some 16, .idxS (.const (.string { data := #[48, 49, 50, 51, 52, 53, 54, 55, 56, 57, 97, 98, 99, 100, 101, 102] })) (.tmp 15), none⟩
    (.one false ⟨some 17, .buildSl 5 2 #[.int .u8 0, .int .u8 0] [(0, 1, (.tmp 13)), (1, 1, (.tmp 16))], none⟩
    (.one false ⟨some 18, .app 5 1 1 #[.int .u8 0] (.tmp 10) (.tmp 17), none⟩
    (.first true ⟨some 3, .mv (.tmp 18), none⟩
    .nil)))))))))) [7, 6, 3])))
  (.reg [⟨some 19, .bin .add (.tmp 7) (.const (.int .i64 1)), none⟩,
      ⟨some 7, .mv (.tmp 19), none⟩] [7, 6, 3]))))
def sha_Text.ic : ICode :=
  (.seq (.reg [⟨some 1, .box 23 (.tmp 0), none⟩,
      ⟨some 2, .mv (.const (.string { data := #[] })), none⟩] [1])
  (.seq (.reg [⟨some 3, .mv (.const (.slice none 0 0)), none⟩] [3, 1])
  (.seq (.seq (.reg [⟨some 6, .ldN 32 (.tmp 1), none⟩,
      ⟨some 7, .mv (.const (.int .i64 0)), none⟩] [7, 6, 3])
  (.block 0 (.loop sha_Text.body0)))
  (.seq (.reg [⟨some 20, .mv (.tmp 3), none⟩,
      ⟨some 21, .cvStr (.tmp 20), none⟩,
      ⟨some 2, .mv (.tmp 21), none⟩] [2])
  .ret))))
def sha_Text.hints : List Hint := [⟨[1], .nil, default⟩, ⟨[3, 1], .nil, default⟩, ⟨[7, 6, 3], .nil, default⟩, ⟨[8, 7, 6, 3], .nil, default⟩, ⟨[7, 6, 3], .nil, default⟩, ⟨[3], .nil, default⟩, ⟨[7, 6, 5, 3], .nil, default⟩, ⟨[7, 6, 3], (.first true 0 254 (.first true 1 113 (.first true 2 115 (.first true 3 119 (.first true 4 15 (.first true 5 31 (.first true 6 63 (.one false 7 (.one false 8 (.first true 9 511 .nil)))))))))), ⟨[0, 0, 2, 4, 0, 16, 32, 72, 129, 511], [1024, 2048, 4096, 8192, 16384, 32768, 65536, 131072, 262144, 8], [8, 32, 2048, 4096, 32, 16384, 32768, 73728, 132096, 262144], 639, 0⟩⟩, ⟨[7, 6, 3], .nil, default⟩, ⟨[2], .nil, default⟩]
theorem sha_Text.comp : ∃ c, Tryd.f7.body = some c ∧ comp PP 22 c sha_Text.hints = some (sha_Text.ic, []) := ⟨_, rfl, by kernel_rfl⟩
theorem sha_Text.res : compRess PP Tryd.f7.results.toList = some [.mv (.tmp 2)] := by kernel_rfl
theorem sha_Text.start {args : List Value} {w : World} {R : Value → World → Prop} (ha : args.length ≤ 22)
    (h : IW PP sha_Text.ic [] (argEnv args 0) w (RQ PP [.mv (.tmp 2)] R)) : Ret PP sha_Text.id args.toArray w R := by
  obtain ⟨c, hb, hc⟩ := sha_Text.comp
  exact ret_iw Tryd.func7 hb rfl hc sha_Text.res ha h

/- 8: slots: 0 v, 1 at, 2 n, 3 v, 4 at, 5 n -/
abbrev word_Field.id : FuncId := 8
def word_Field.ic : ICode :=
  (.seq (.reg [⟨some 6, .mv (.const (.int .u64 0)), none⟩] [2, 1, 0])
  (.seq (.seq (.reg [⟨some 7, .mv (.tmp 1), none⟩,
      ⟨some 8, .bin .lss (.tmp 7) (.const (.int .i64 0)), none⟩,
      ⟨some 9, .mv (.tmp 8), none⟩,
      ⟨some 10, .mv (.tmp 1), some (9, false)⟩,
      ⟨some 11, .bin .gtr (.tmp 10) (.const (.int .i64 63)), some (9, false)⟩,
      ⟨some 12, .pick (.tmp 9) (.const (.bool true)) (.tmp 11), none⟩] [12, 2, 1, 0])
  (.cond (.tmp 12) [] [2, 1, 0]
    (.seq (.reg [⟨some 6, .mv (.const (.int .u64 0)), none⟩] [6])
    .ret)
    .skip))
  (.seq (.reg [⟨some 13, .mv (.tmp 0), none⟩,
      ⟨some 14, .mv (.tmp 1), none⟩,
      ⟨some 15, .bin .shr (.tmp 13) (.tmp 14), none⟩,
      ⟨some 16, .mv (.tmp 2), none⟩,
      ⟨some 17, .call 25 [(.tmp 15), (.tmp 16)], none⟩,
      ⟨some 6, .mv (.tmp 17), none⟩] [6])
  .ret)))
def word_Field.hints : List Hint := [⟨[2, 1, 0], .nil, default⟩, ⟨[12, 2, 1, 0], .nil, default⟩, ⟨[], .nil, default⟩, ⟨[2, 1, 0], .nil, default⟩, ⟨[6], .nil, default⟩, ⟨[6], .nil, default⟩]
theorem word_Field.comp : ∃ c, Tryd.f8.body = some c ∧ comp PP 18 c word_Field.hints = some (word_Field.ic, []) := ⟨_, rfl, by kernel_rfl⟩
theorem word_Field.res : compRess PP Tryd.f8.results.toList = some [.mv (.tmp 6)] := by kernel_rfl
theorem word_Field.start {args : List Value} {w : World} {R : Value → World → Prop} (ha : args.length ≤ 18)
    (h : IW PP word_Field.ic [] (argEnv args 0) w (RQ PP [.mv (.tmp 6)] R)) : Ret PP word_Field.id args.toArray w R := by
  obtain ⟨c, hb, hc⟩ := word_Field.comp
  exact ret_iw Tryd.func8 hb rfl hc word_Field.res ha h

/- 9: slots:  -/
abbrev ordealtop_live.id : FuncId := 9
def ordealtop_live.ic : ICode :=
  (.seq (.reg [⟨some 0, .mv (.const (.bool false)), none⟩] [])
  (.seq (.reg [⟨some 1, .call 14 [(.const (.string { data := #[49, 50, 51, 52, 53, 54, 55, 56, 57] }))], none⟩,
      ⟨some 2, .bin .eql (.tmp 1) (.const (.int .u32 3808858755)), none⟩,
      ⟨some 3, .mv (.tmp 2), none⟩,
      ⟨some 4, .call 5 [(.const (.string { data := #[97, 98, 99] }))], some (3, true)⟩,
      ⟨some 5, .call 7 [(.tmp 4)], some (3, true)⟩,
      ⟨some 6, .slcS (.tmp 5) none (some (.const (.int .i64 8))), some (3, true)⟩,
      ⟨some 7, .bin .eql (.tmp 6) (.const (.string { data := #[98, 97, 55, 56, 49, 54, 98, 102] })), some (3, true)⟩,
      ⟨some 8, .pick (.tmp 3) (.tmp 7) (.const (.bool false)), none⟩,
      ⟨some 9, .mv (.tmp 8), none⟩,
      ⟨some 10, .call 26 [(.const (.int .u64 8))], some (9, true)⟩,
      ⟨some 11, .bin .eql (.tmp 10) (.const (.int .i64 3)), some (9, true)⟩,
      ⟨some 12, .pick (.tmp 9) (.tmp 11) (.const (.bool false)), none⟩,
      ⟨some 0, .mv (.tmp 12), none⟩] [0])
  .ret))
def ordealtop_live.hints : List Hint := [⟨[], .nil, default⟩, ⟨[0], .nil, default⟩]
theorem ordealtop_live.comp : ∃ c, Tryd.f9.body = some c ∧ comp PP 13 c ordealtop_live.hints = some (ordealtop_live.ic, []) := ⟨_, rfl, by kernel_rfl⟩
theorem ordealtop_live.res : compRess PP Tryd.f9.results.toList = some [.mv (.tmp 0)] := by kernel_rfl
theorem ordealtop_live.start {args : List Value} {w : World} {R : Value → World → Prop} (ha : args.length ≤ 13)
    (h : IW PP ordealtop_live.ic [] (argEnv args 0) w (RQ PP [.mv (.tmp 0)] R)) : Ret PP ordealtop_live.id args.toArray w R := by
  obtain ⟨c, hb, hc⟩ := ordealtop_live.comp
  exact ret_iw Tryd.func9 hb rfl hc ordealtop_live.res ha h

/- 10: slots: 0 w, 1 v, 2 w, 3 v, 4 n -/
abbrev pack_Writer_Num.id : FuncId := 10
def pack_Writer_Num.ic : ICode :=
  (.seq (.seq (.reg [⟨some 5, .mv (.tmp 1), none⟩,
      ⟨some 6, .bin .lss (.tmp 5) (.const (.int .u64 248)), none⟩] [6, 1, 0])
  (.cond (.tmp 6) [1, 0] [1, 0]
    (.seq (.reg [⟨some 7, .mv (.tmp 0), none⟩,
        ⟨some 8, .mv (.tmp 0), none⟩,
        ⟨some 9, .nilck (.tmp 8), none⟩,
        ⟨some 10, .fldA 0 (.tmp 9), none⟩,
        ⟨some 11, .ld .slice (.tmp 10), none⟩,
        ⟨some 12, .mv (.tmp 1), none⟩,
        ⟨some 13, .cvInt .u8 (.tmp 12), none⟩,
        ⟨some 14, .buildSl 5 1 #[.int .u8 0] [(0, 1, (.tmp 13))], none⟩,
        ⟨some 15, .app 5 1 1 #[.int .u8 0] (.tmp 11) (.tmp 14), none⟩,
        ⟨some 16, .nilck (.tmp 7), none⟩,
        ⟨some 17, .fldA 0 (.tmp 16), none⟩,
        ⟨none, .st (.tmp 17) (.tmp 15), none⟩] [])
    .ret)
    .skip))
  (.seq (.reg [⟨some 18, .mv (.tmp 1), none⟩,
      ⟨some 19, .call 27 [(.tmp 18)], none⟩,
      ⟨some 4, .mv (.tmp 19), none⟩] [4, 1, 0])
  (.seq (.reg [⟨some 20, .mv (.tmp 0), none⟩,
      ⟨some 21, .mv (.tmp 0), none⟩,
      ⟨some 22, .nilck (.tmp 21), none⟩,
      ⟨some 23, .fldA 0 (.tmp 22), none⟩,
      ⟨some 24, .ld .slice (.tmp 23), none⟩,
      ⟨some 25, .mv (.tmp 4), none⟩,
      ⟨some 26, .bin .add (.const (.int .i64 248)) (.tmp 25), none⟩,
      ⟨some 27, .bin .sub (.tmp 26) (.const (.int .i64 1)), none⟩,
      ⟨some 28, .cvInt .u8 (.tmp 27), none⟩,
      ⟨some 29, .buildSl 5 1 #[.int .u8 0] [(0, 1, (.tmp 28))], none⟩,
      ⟨some 30, .app 5 1 1 #[.int .u8 0] (.tmp 24) (.tmp 29), none⟩,
      ⟨some 31, .nilck (.tmp 20), none⟩,
      ⟨some 32, .fldA 0 (.tmp 31), none⟩,
      ⟨none, .st (.tmp 32) (.tmp 30), none⟩] [4, 1, 0])
  (.reg [⟨some 33, .mv (.tmp 0), none⟩,
      ⟨some 34, .mv (.tmp 1), none⟩,
      ⟨some 35, .mv (.tmp 4), none⟩,
      ⟨some 36, .call 13 [(.tmp 33), (.tmp 34), (.tmp 35)], none⟩] []))))
def pack_Writer_Num.hints : List Hint := [⟨[6, 1, 0], .nil, default⟩, ⟨[1, 0], .nil, default⟩, ⟨[1, 0], .nil, default⟩, ⟨[], .nil, default⟩, ⟨[4, 1, 0], .nil, default⟩, ⟨[4, 1, 0], .nil, default⟩, ⟨[], .nil, default⟩]
theorem pack_Writer_Num.comp : ∃ c, Tryd.f10.body = some c ∧ comp PP 37 c pack_Writer_Num.hints = some (pack_Writer_Num.ic, []) := ⟨_, rfl, by kernel_rfl⟩
theorem pack_Writer_Num.res : compRess PP Tryd.f10.results.toList = some [] := by kernel_rfl
theorem pack_Writer_Num.start {args : List Value} {w : World} {R : Value → World → Prop} (ha : args.length ≤ 37)
    (h : IW PP pack_Writer_Num.ic [] (argEnv args 0) w (RQ PP [] R)) : Ret PP pack_Writer_Num.id args.toArray w R := by
  obtain ⟨c, hb, hc⟩ := pack_Writer_Num.comp
  exact ret_iw Tryd.func10 hb rfl hc pack_Writer_Num.res ha h

/- 11: slots: 0 n, 1 n -/
abbrev word_Fold.id : FuncId := 11
def word_Fold.ic : ICode :=
  (.seq (.reg [⟨some 2, .mv (.const (.int .u64 0)), none⟩] [0])
  (.seq (.reg [⟨some 3, .mv (.tmp 0), none⟩,
      ⟨some 4, .cvInt .u64 (.tmp 3), none⟩,
      ⟨some 5, .shlC 1 (.tmp 4), none⟩,
      ⟨some 6, .mv (.tmp 0), none⟩,
      ⟨some 7, .shrC 63 (.tmp 6), none⟩,
      ⟨some 8, .cvInt .u64 (.tmp 7), none⟩,
      ⟨some 9, .bin .xor (.tmp 5) (.tmp 8), none⟩,
      ⟨some 2, .mv (.tmp 9), none⟩] [2])
  .ret))
def word_Fold.hints : List Hint := [⟨[0], .nil, default⟩, ⟨[2], .nil, default⟩]
theorem word_Fold.comp : ∃ c, Tryd.f11.body = some c ∧ comp PP 10 c word_Fold.hints = some (word_Fold.ic, []) := ⟨_, rfl, by kernel_rfl⟩
theorem word_Fold.res : compRess PP Tryd.f11.results.toList = some [.mv (.tmp 2)] := by kernel_rfl
theorem word_Fold.start {args : List Value} {w : World} {R : Value → World → Prop} (ha : args.length ≤ 10)
    (h : IW PP word_Fold.ic [] (argEnv args 0) w (RQ PP [.mv (.tmp 2)] R)) : Ret PP word_Fold.id args.toArray w R := by
  obtain ⟨c, hb, hc⟩ := word_Fold.comp
  exact ret_iw Tryd.func11 hb rfl hc word_Fold.res ha h

/- 12: slots: 0 w, 1 w -/
abbrev pack_Writer_Bytes.id : FuncId := 12
def pack_Writer_Bytes.ic : ICode :=
  (.seq (.reg [⟨some 2, .mv (.const (.string { data := #[] })), none⟩] [0])
  (.seq (.reg [⟨some 3, .mv (.tmp 0), none⟩,
      ⟨some 4, .nilck (.tmp 3), none⟩,
      ⟨some 5, .fldA 0 (.tmp 4), none⟩,
      ⟨some 6, .ld .slice (.tmp 5), none⟩,
      ⟨some 7, .cvStr (.tmp 6), none⟩,
      ⟨some 2, .mv (.tmp 7), none⟩] [2])
  .ret))
def pack_Writer_Bytes.hints : List Hint := [⟨[0], .nil, default⟩, ⟨[2], .nil, default⟩]
theorem pack_Writer_Bytes.comp : ∃ c, Tryd.f12.body = some c ∧ comp PP 8 c pack_Writer_Bytes.hints = some (pack_Writer_Bytes.ic, []) := ⟨_, rfl, by kernel_rfl⟩
theorem pack_Writer_Bytes.res : compRess PP Tryd.f12.results.toList = some [.mv (.tmp 2)] := by kernel_rfl
theorem pack_Writer_Bytes.start {args : List Value} {w : World} {R : Value → World → Prop} (ha : args.length ≤ 8)
    (h : IW PP pack_Writer_Bytes.ic [] (argEnv args 0) w (RQ PP [.mv (.tmp 2)] R)) : Ret PP pack_Writer_Bytes.id args.toArray w R := by
  obtain ⟨c, hb, hc⟩ := pack_Writer_Bytes.comp
  exact ret_iw Tryd.func12 hb rfl hc pack_Writer_Bytes.res ha h

/- 13: slots: 0 w, 1 v, 2 n, 3 w, 4 v, 5 n, 6 i
  loop: 0 w, 1 v, 6 i -/
abbrev pack_Writer_Fixed.id : FuncId := 13
def pack_Writer_Fixed.body0 : ICode :=
  (.seq (.seq (.reg [⟨some 12, .mv (.tmp 6), none⟩,
      ⟨some 13, .bin .geq (.tmp 12) (.const (.int .i64 0)), none⟩] [13, 6, 1, 0])
  (.cond (.tmp 13) [6, 1, 0] []
    .skip
    (.exit 0)))
  (.seq (.block 1 (.regD (.first true ⟨some 16, .mv (.tmp 0), none⟩
    (.first true ⟨some 17, .mv (.tmp 0), none⟩
    (.first true ⟨some 18, .nilck (.tmp 17), none⟩
    (.first true ⟨some 19, .fldA 0 (.tmp 18), none⟩
    (.first true ⟨some 21, .mv (.tmp 1), none⟩
    (.first true ⟨some 22, .mv (.tmp 6), none⟩
    (.first true ⟨some 23, .bin .mul (.const (.int .i64 8)) (.tmp 22), none⟩
    (.first false ⟨some 20, .ld .slice (.tmp 19), none⟩
    (.one true ⟨some 24, .call 8 [(.tmp 21), (.tmp 23), (.const (.int .i64 8))], none⟩
    (.first true ⟨some 25, .cvInt .u8 (.tmp 24), none⟩
    (.one true ⟨some 26, .buildSl 5 1 #[.int .u8 0] [(0, 1, (.tmp 25))], none⟩
    (.one false ⟨some 27, .app 5 1 1 #[.int .u8 0] (.tmp 20) (.tmp 26), none⟩
    (.first true ⟨some 28, .nilck (.tmp 16), none⟩
    (.first true ⟨some 29, .fldA 0 (.tmp 28), none⟩
    (.one false ⟨none, .st (.tmp 29) (.tmp 27), none⟩
    .nil))))))))))))))) [6, 1, 0]))
  (.reg [⟨some 14, .mv (.tmp 6), none⟩,
      ⟨some 15, .bin .sub (.tmp 14) (.const (.int .i64 1)), none⟩,
      ⟨some 6, .mv (.tmp 15), none⟩] [6, 1, 0])))
def pack_Writer_Fixed.ic : ICode :=
  (.seq (.reg [⟨some 7, .mv (.tmp 2), none⟩,
      ⟨some 8, .maxI (.tmp 7) (.const (.int .i64 1)), none⟩,
      ⟨some 9, .minI (.tmp 8) (.const (.int .i64 8)), none⟩,
      ⟨some 2, .mv (.tmp 9), none⟩] [2, 1, 0])
  (.seq (.reg [⟨some 10, .mv (.tmp 2), none⟩,
      ⟨some 11, .bin .sub (.tmp 10) (.const (.int .i64 1)), none⟩,
      ⟨some 6, .mv (.tmp 11), none⟩] [6, 1, 0])
  (.block 0 (.loop pack_Writer_Fixed.body0))))
def pack_Writer_Fixed.hints : List Hint := [⟨[2, 1, 0], .nil, default⟩, ⟨[6, 1, 0], .nil, default⟩, ⟨[13, 6, 1, 0], .nil, default⟩, ⟨[6, 1, 0], .nil, default⟩, ⟨[], .nil, default⟩, ⟨[6, 1, 0], (.first true 0 4094 (.first true 1 2017 (.first true 2 2019 (.first true 3 2023 (.first true 5 223 (.first true 6 63 (.first true 7 127 (.first false 4 2031 (.one true 8 (.first true 9 511 (.one true 10 (.one false 11 (.first true 12 4095 (.first true 13 8191 (.one false 14 .nil))))))))))))))), ⟨[0, 0, 2, 4, 8, 0, 0, 64, 160, 256, 512, 1296, 4095, 8191, 12287], [65536, 131072, 262144, 524288, 1048576, 2097152, 4194304, 8388608, 16777216, 33554432, 67108864, 134217728, 268435456, 536870912, 0], [1, 1, 131072, 262144, 524288, 2, 64, 4194304, 10485760, 16777216, 33554432, 68157440, 65536, 268435456, 671088640], 13055, 16⟩⟩, ⟨[6, 1, 0], .nil, default⟩]
theorem pack_Writer_Fixed.comp : ∃ c, Tryd.f13.body = some c ∧ comp PP 30 c pack_Writer_Fixed.hints = some (pack_Writer_Fixed.ic, []) := ⟨_, rfl, by kernel_rfl⟩
theorem pack_Writer_Fixed.res : compRess PP Tryd.f13.results.toList = some [] := by kernel_rfl
theorem pack_Writer_Fixed.start {args : List Value} {w : World} {R : Value → World → Prop} (ha : args.length ≤ 30)
    (h : IW PP pack_Writer_Fixed.ic [] (argEnv args 0) w (RQ PP [] R)) : Ret PP pack_Writer_Fixed.id args.toArray w R := by
  obtain ⟨c, hb, hc⟩ := pack_Writer_Fixed.comp
  exact ret_iw Tryd.func13 hb rfl hc pack_Writer_Fixed.res ha h

/- 14: slots: 0 s, 1 s -/
abbrev crc_Of.id : FuncId := 14
def crc_Of.ic : ICode :=
  (.seq (.reg [⟨some 2, .mv (.const (.int .u32 0)), none⟩] [0])
  (.seq (.reg [⟨some 3, .mv (.tmp 0), none⟩,
      ⟨some 4, .call 24 [(.const (.int .u32 0)), (.tmp 3)], none⟩,
      ⟨some 2, .mv (.tmp 4), none⟩] [2])
  .ret))
def crc_Of.hints : List Hint := [⟨[0], .nil, default⟩, ⟨[2], .nil, default⟩]
theorem crc_Of.comp : ∃ c, Tryd.f14.body = some c ∧ comp PP 5 c crc_Of.hints = some (crc_Of.ic, []) := ⟨_, rfl, by kernel_rfl⟩
theorem crc_Of.res : compRess PP Tryd.f14.results.toList = some [.mv (.tmp 2)] := by kernel_rfl
theorem crc_Of.start {args : List Value} {w : World} {R : Value → World → Prop} (ha : args.length ≤ 5)
    (h : IW PP crc_Of.ic [] (argEnv args 0) w (RQ PP [.mv (.tmp 2)] R)) : Ret PP crc_Of.id args.toArray w R := by
  obtain ⟨c, hb, hc⟩ := crc_Of.comp
  exact ret_iw Tryd.func14 hb rfl hc crc_Of.res ha h

/- 15: slots: 0 w, 1 s, 2 w, 3 s -/
abbrev pack_Writer_Raw.id : FuncId := 15
def pack_Writer_Raw.ic : ICode :=
  (.reg [⟨some 4, .mv (.tmp 0), none⟩,
      ⟨some 5, .mv (.tmp 0), none⟩,
      ⟨some 6, .nilck (.tmp 5), none⟩,
      ⟨some 7, .fldA 0 (.tmp 6), none⟩,
      ⟨some 8, .ld .slice (.tmp 7), none⟩,
      ⟨some 9, .mv (.tmp 1), none⟩,
      ⟨some 10, .appS 5 (.tmp 8) (.tmp 9), none⟩,
      ⟨some 11, .nilck (.tmp 4), none⟩,
      ⟨some 12, .fldA 0 (.tmp 11), none⟩,
      ⟨none, .st (.tmp 12) (.tmp 10), none⟩] [])
def pack_Writer_Raw.hints : List Hint := [⟨[], .nil, default⟩]
theorem pack_Writer_Raw.comp : ∃ c, Tryd.f15.body = some c ∧ comp PP 13 c pack_Writer_Raw.hints = some (pack_Writer_Raw.ic, []) := ⟨_, rfl, by kernel_rfl⟩
theorem pack_Writer_Raw.res : compRess PP Tryd.f15.results.toList = some [] := by kernel_rfl
theorem pack_Writer_Raw.start {args : List Value} {w : World} {R : Value → World → Prop} (ha : args.length ≤ 13)
    (h : IW PP pack_Writer_Raw.ic [] (argEnv args 0) w (RQ PP [] R)) : Ret PP pack_Writer_Raw.id args.toArray w R := by
  obtain ⟨c, hb, hc⟩ := pack_Writer_Raw.comp
  exact ret_iw Tryd.func15 hb rfl hc pack_Writer_Raw.res ha h

/- 16: slots: 0 s, 1 s -/
abbrev pack_Read.id : FuncId := 16
def pack_Read.ic : ICode :=
  (.seq (.reg [⟨some 2, .mv (.const (.pointer none)), none⟩] [0])
  (.seq (.reg [⟨some 3, .mv (.tmp 0), none⟩,
      ⟨some 4, .build #[.string ByteArray.empty, .int .i64 0, .int .i64 0] [(0, 1, (.tmp 3))], none⟩,
      ⟨some 5, .box 61 (.tmp 4), none⟩,
      ⟨some 2, .mv (.tmp 5), none⟩] [2])
  .ret))
def pack_Read.hints : List Hint := [⟨[0], .nil, default⟩, ⟨[2], .nil, default⟩]
theorem pack_Read.comp : ∃ c, Tryd.f16.body = some c ∧ comp PP 6 c pack_Read.hints = some (pack_Read.ic, []) := ⟨_, rfl, by kernel_rfl⟩
theorem pack_Read.res : compRess PP Tryd.f16.results.toList = some [.mv (.tmp 2)] := by kernel_rfl
theorem pack_Read.start {args : List Value} {w : World} {R : Value → World → Prop} (ha : args.length ≤ 6)
    (h : IW PP pack_Read.ic [] (argEnv args 0) w (RQ PP [.mv (.tmp 2)] R)) : Ret PP pack_Read.id args.toArray w R := by
  obtain ⟨c, hb, hc⟩ := pack_Read.comp
  exact ret_iw Tryd.func16 hb rfl hc pack_Read.res ha h

/- 17: slots: 0 v, 1 v -/
abbrev word_Unfold.id : FuncId := 17
def word_Unfold.ic : ICode :=
  (.seq (.reg [⟨some 2, .mv (.const (.int .i64 0)), none⟩] [0])
  (.seq (.reg [⟨some 3, .mv (.tmp 0), none⟩,
      ⟨some 4, .shrC 1 (.tmp 3), none⟩,
      ⟨some 5, .cvInt .i64 (.tmp 4), none⟩,
      ⟨some 6, .mv (.tmp 0), none⟩,
      ⟨some 7, .bin .and (.tmp 6) (.const (.int .u64 1)), none⟩,
      ⟨some 8, .cvInt .i64 (.tmp 7), none⟩,
      ⟨some 9, .un .neg (.tmp 8), none⟩,
      ⟨some 10, .bin .xor (.tmp 5) (.tmp 9), none⟩,
      ⟨some 2, .mv (.tmp 10), none⟩] [2])
  .ret))
def word_Unfold.hints : List Hint := [⟨[0], .nil, default⟩, ⟨[2], .nil, default⟩]
theorem word_Unfold.comp : ∃ c, Tryd.f17.body = some c ∧ comp PP 11 c word_Unfold.hints = some (word_Unfold.ic, []) := ⟨_, rfl, by kernel_rfl⟩
theorem word_Unfold.res : compRess PP Tryd.f17.results.toList = some [.mv (.tmp 2)] := by kernel_rfl
theorem word_Unfold.start {args : List Value} {w : World} {R : Value → World → Prop} (ha : args.length ≤ 11)
    (h : IW PP word_Unfold.ic [] (argEnv args 0) w (RQ PP [.mv (.tmp 2)] R)) : Ret PP word_Unfold.id args.toArray w R := by
  obtain ⟨c, hb, hc⟩ := word_Unfold.comp
  exact ret_iw Tryd.func17 hb rfl hc word_Unfold.res ha h

/- 18: slots: 0 r, 1 r, 3 from, 4 c, 5 v -/
abbrev pack_Reader_Num.id : FuncId := 18
def pack_Reader_Num.ic : ICode :=
  (.seq (.reg [⟨some 2, .mv (.const (.int .u64 0)), none⟩] [0])
  (.seq (.reg [⟨some 6, .mv (.tmp 0), none⟩,
      ⟨some 7, .nilck (.tmp 6), none⟩,
      ⟨some 8, .fldA 1 (.tmp 7), none⟩,
      ⟨some 9, .ld (.int .i64) (.tmp 8), none⟩,
      ⟨some 3, .mv (.tmp 9), none⟩] [3, 0])
  (.seq (.reg [⟨some 10, .mv (.tmp 0), none⟩,
      ⟨some 11, .call 20 [(.tmp 10), (.const (.int .i64 1))], none⟩,
      ⟨some 4, .mv (.tmp 11), none⟩] [4, 3, 0])
  (.seq (.seq (.reg [⟨some 12, .mv (.tmp 0), none⟩,
      ⟨some 13, .nilck (.tmp 12), none⟩,
      ⟨some 14, .fldA 2 (.tmp 13), none⟩,
      ⟨some 15, .ld (.int .i64) (.tmp 14), none⟩,
      ⟨some 16, .bin .neq (.tmp 15) (.const (.int .i64 0)), none⟩,
      ⟨some 17, .mv (.tmp 16), none⟩,
      ⟨some 18, .mv (.tmp 4), some (17, false)⟩,
      ⟨some 19, .bin .lss (.tmp 18) (.const (.int .u64 248)), some (17, false)⟩,
      ⟨some 20, .pick (.tmp 17) (.const (.bool true)) (.tmp 19), none⟩] [20, 4, 3, 0])
  (.cond (.tmp 20) [4] [4, 3, 0]
    (.seq (.reg [⟨some 21, .mv (.tmp 4), none⟩,
        ⟨some 2, .mv (.tmp 21), none⟩] [2])
    .ret)
    .skip))
  (.seq (.reg [⟨some 22, .mv (.tmp 0), none⟩,
      ⟨some 23, .mv (.tmp 4), none⟩,
      ⟨some 24, .cvInt .i64 (.tmp 23), none⟩,
      ⟨some 25, .bin .sub (.tmp 24) (.const (.int .i64 248)), none⟩,
      ⟨some 26, .bin .add (.tmp 25) (.const (.int .i64 1)), none⟩,
      ⟨some 27, .call 20 [(.tmp 22), (.tmp 26)], none⟩,
      ⟨some 5, .mv (.tmp 27), none⟩] [5, 4, 3, 0])
  (.seq (.seq (.reg [⟨some 28, .mv (.tmp 0), none⟩,
      ⟨some 29, .nilck (.tmp 28), none⟩,
      ⟨some 30, .fldA 2 (.tmp 29), none⟩,
      ⟨some 31, .ld (.int .i64) (.tmp 30), none⟩,
      ⟨some 32, .bin .eql (.tmp 31) (.const (.int .i64 0)), none⟩,
      ⟨some 33, .mv (.tmp 32), none⟩,
      ⟨some 34, .mv (.tmp 5), some (33, true)⟩,
      ⟨some 35, .bin .lss (.tmp 34) (.const (.int .u64 248)), some (33, true)⟩,
      ⟨some 36, .mv (.tmp 35), some (33, true)⟩,
      ⟨some 37, .mv (.tmp 5), some (36, false)⟩,
      ⟨some 38, .call 27 [(.tmp 37)], some (36, false)⟩,
      ⟨some 39, .mv (.tmp 4), some (36, false)⟩,
      ⟨some 40, .cvInt .i64 (.tmp 39), some (36, false)⟩,
      ⟨some 41, .bin .sub (.tmp 40) (.const (.int .i64 248)), some (36, false)⟩,
      ⟨some 42, .bin .add (.tmp 41) (.const (.int .i64 1)), some (36, false)⟩,
      ⟨some 43, .bin .neq (.tmp 38) (.tmp 42), some (36, false)⟩,
      ⟨some 44, .pick (.tmp 36) (.const (.bool true)) (.tmp 43), some (33, true)⟩,
      ⟨some 45, .pick (.tmp 33) (.tmp 44) (.const (.bool false)), none⟩] [45, 5, 3, 0])
  (.cond (.tmp 45) [5, 3, 0] [5, 3, 0]
    (.reg [⟨some 46, .mv (.tmp 0), none⟩,
        ⟨some 47, .nilck (.tmp 46), none⟩,
        ⟨some 48, .fldA 2 (.tmp 47), none⟩,
        ⟨none, .st (.tmp 48) (.const (.int .i64 3)), none⟩] [5, 3, 0])
    .skip))
  (.seq (.seq (.reg [⟨some 49, .mv (.tmp 0), none⟩,
      ⟨some 50, .nilck (.tmp 49), none⟩,
      ⟨some 51, .fldA 2 (.tmp 50), none⟩,
      ⟨some 52, .ld (.int .i64) (.tmp 51), none⟩,
      ⟨some 53, .bin .neq (.tmp 52) (.const (.int .i64 0)), none⟩] [53, 5, 3, 0])
  (.cond (.tmp 53) [3, 0] [5]
    (.seq (.reg [⟨some 54, .mv (.tmp 0), none⟩,
        ⟨some 55, .mv (.tmp 3), none⟩,
        ⟨some 56, .nilck (.tmp 54), none⟩,
        ⟨some 57, .fldA 1 (.tmp 56), none⟩,
        ⟨none, .st (.tmp 57) (.tmp 55), none⟩] [])
    (.seq (.reg [⟨some 2, .mv (.const (.int .u64 0)), none⟩] [2])
    .ret))
    .skip))
  (.seq (.reg [⟨some 58, .mv (.tmp 5), none⟩,
      ⟨some 2, .mv (.tmp 58), none⟩] [2])
  .ret))))))))
def pack_Reader_Num.hints : List Hint := [⟨[0], .nil, default⟩, ⟨[3, 0], .nil, default⟩, ⟨[4, 3, 0], .nil, default⟩, ⟨[20, 4, 3, 0], .nil, default⟩, ⟨[4], .nil, default⟩, ⟨[4, 3, 0], .nil, default⟩, ⟨[2], .nil, default⟩, ⟨[5, 4, 3, 0], .nil, default⟩, ⟨[45, 5, 3, 0], .nil, default⟩, ⟨[5, 3, 0], .nil, default⟩, ⟨[5, 3, 0], .nil, default⟩, ⟨[5, 3, 0], .nil, default⟩, ⟨[53, 5, 3, 0], .nil, default⟩, ⟨[3, 0], .nil, default⟩, ⟨[5], .nil, default⟩, ⟨[], .nil, default⟩, ⟨[2], .nil, default⟩, ⟨[2], .nil, default⟩]
theorem pack_Reader_Num.comp : ∃ c, Tryd.f18.body = some c ∧ comp PP 59 c pack_Reader_Num.hints = some (pack_Reader_Num.ic, []) := ⟨_, rfl, by kernel_rfl⟩
theorem pack_Reader_Num.res : compRess PP Tryd.f18.results.toList = some [.mv (.tmp 2)] := by kernel_rfl
theorem pack_Reader_Num.start {args : List Value} {w : World} {R : Value → World → Prop} (ha : args.length ≤ 59)
    (h : IW PP pack_Reader_Num.ic [] (argEnv args 0) w (RQ PP [.mv (.tmp 2)] R)) : Ret PP pack_Reader_Num.id args.toArray w R := by
  obtain ⟨c, hb, hc⟩ := pack_Reader_Num.comp
  exact ret_iw Tryd.func18 hb rfl hc pack_Reader_Num.res ha h

/- 19: slots: 0 h, 1 s, 2 h, 3 s
  loop: 0 h -/
abbrev sha_Hasher_Write.id : FuncId := 19
def sha_Hasher_Write.body0 : ICode :=
  (.seq (.seq (.reg [⟨some 35, .mv (.tmp 0), none⟩,
      ⟨some 36, .nilck (.tmp 35), none⟩,
      ⟨some 37, .fldA 9 (.tmp 36), none⟩,
      ⟨some 38, .ld .slice (.tmp 37), none⟩,
      ⟨some 39, .lenL (.tmp 38), none⟩,
      ⟨some 40, .bin .geq (.tmp 39) (.const (.int .i64 64)), none⟩] [40, 0])
  (.cond (.tmp 40) [0] []
    .skip
    (.exit 0)))
  (.block 1 (.seq (.regD (.first true ⟨some 41, .mv (.tmp 0), none⟩
    (.first true ⟨some 42, .mv (.tmp 0), none⟩
    (.first true ⟨some 43, .nilck (.tmp 42), none⟩
    (.first true ⟨some 44, .fldA 1 (.tmp 43), none⟩
    (.first true ⟨some 46, .mv (.tmp 0), none⟩
    (.first true ⟨some 47, .nilck (.tmp 46), none⟩
    (.first true ⟨some 48, .fldA 9 (.tmp 47), none⟩
    (.first false ⟨some 45, .ldN 8 (.tmp 44), none⟩
    (.first false ⟨some 49, .ld .slice (.tmp 48), none⟩
    (.first true ⟨some 50, .slcL 1 (.tmp 49) none (some (.const (.int .i64 64))), none⟩
    (.one false ⟨some 51, .call 28 [(.tmp 45), (.tmp 50)], none⟩
    (.first true ⟨some 52, .nilck (.tmp 41), none⟩
    (.first true ⟨some 53, .fldA 1 (.tmp 52), none⟩
    (.one false ⟨none, .stN 8 (.tmp 53) (.tmp 51), none⟩
    .nil)))))))))))))) [0])
    (.reg [⟨some 54, .mv (.tmp 0), none⟩,
        ⟨some 55, .buildSl 5 0 #[] [], none⟩,
        ⟨some 56, .mv (.tmp 0), none⟩,
        ⟨some 57, .nilck (.tmp 56), none⟩,
        ⟨some 58, .fldA 9 (.tmp 57), none⟩,
        ⟨some 59, .ld .slice (.tmp 58), none⟩,
        ⟨some 60, .slcL 1 (.tmp 59) (some (.const (.int .i64 64))) none, none⟩,
        ⟨some 61, .app 5 1 1 #[.int .u8 0] (.tmp 55) (.tmp 60), none⟩,
        ⟨some 62, .nilck (.tmp 54), none⟩,
        ⟨some 63, .fldA 9 (.tmp 62), none⟩,
        ⟨none, .st (.tmp 63) (.tmp 61), none⟩] [0]))))
def sha_Hasher_Write.ic : ICode :=
  (.seq (.seq (.reg [⟨some 4, .mv (.tmp 0), none⟩,
      ⟨some 5, .nilck (.tmp 4), none⟩,
      ⟨some 6, .fldA 0 (.tmp 5), none⟩,
      ⟨some 7, .ld .bool (.tmp 6), none⟩,
      ⟨some 8, .un .not (.tmp 7), none⟩] [8, 1, 0])
  (.cond (.tmp 8) [1, 0] [1, 0]
    (.reg [⟨some 9, .mv (.tmp 0), none⟩,
        ⟨some 10, .mv (.tmp 0), none⟩,
        ⟨some 11, .ldN 8 (.global 0), none⟩,
        ⟨some 12, .nilck (.tmp 9), none⟩,
        ⟨some 13, .fldA 0 (.tmp 12), none⟩,
        ⟨none, .st (.tmp 13) (.const (.bool true)), none⟩,
        ⟨some 14, .nilck (.tmp 10), none⟩,
        ⟨some 15, .fldA 1 (.tmp 14), none⟩,
        ⟨none, .stN 8 (.tmp 15) (.tmp 11), none⟩] [1, 0])
    .skip))
  (.seq (.reg [⟨some 16, .mv (.tmp 0), none⟩,
      ⟨some 17, .nilck (.tmp 16), none⟩,
      ⟨some 18, .fldA 10 (.tmp 17), none⟩,
      ⟨some 19, .ld (.int .u64) (.tmp 18), none⟩,
      ⟨some 20, .mv (.tmp 1), none⟩,
      ⟨some 21, .lenS (.tmp 20), none⟩,
      ⟨some 22, .cvInt .u64 (.tmp 21), none⟩,
      ⟨some 23, .bin .add (.tmp 19) (.tmp 22), none⟩,
      ⟨some 24, .nilck (.tmp 16), none⟩,
      ⟨some 25, .fldA 10 (.tmp 24), none⟩,
      ⟨none, .st (.tmp 25) (.tmp 23), none⟩] [1, 0])
  (.seq (.reg [⟨some 26, .mv (.tmp 0), none⟩,
      ⟨some 27, .mv (.tmp 0), none⟩,
      ⟨some 28, .nilck (.tmp 27), none⟩,
      ⟨some 29, .fldA 9 (.tmp 28), none⟩,
      ⟨some 30, .ld .slice (.tmp 29), none⟩,
      ⟨some 31, .mv (.tmp 1), none⟩,
      ⟨some 32, .appS 5 (.tmp 30) (.tmp 31), none⟩,
      ⟨some 33, .nilck (.tmp 26), none⟩,
      ⟨some 34, .fldA 9 (.tmp 33), none⟩,
      ⟨none, .st (.tmp 34) (.tmp 32), none⟩] [0])
  (.block 0 (.loop sha_Hasher_Write.body0)))))
def sha_Hasher_Write.hints : List Hint := [⟨[8, 1, 0], .nil, default⟩, ⟨[1, 0], .nil, default⟩, ⟨[1, 0], .nil, default⟩, ⟨[1, 0], .nil, default⟩, ⟨[1, 0], .nil, default⟩, ⟨[0], .nil, default⟩, ⟨[40, 0], .nil, default⟩, ⟨[0], .nil, default⟩, ⟨[], .nil, default⟩, ⟨[0], (.first true 0 2046 (.first true 1 993 (.first true 2 995 (.first true 3 999 (.first true 5 31 (.first true 6 63 (.first true 7 127 (.first false 4 1007 (.first false 8 255 (.first true 9 511 (.one false 10 (.first true 11 2047 (.first true 12 4095 (.one false 13 .nil)))))))))))))), ⟨[0, 0, 2, 4, 8, 0, 32, 64, 128, 256, 528, 2047, 4095, 6143], [2199023255552, 4398046511104, 8796093022208, 17592186044416, 35184372088832, 70368744177664, 140737488355328, 281474976710656, 562949953421312, 1125899906842624, 2251799813685248, 4503599627370496, 9007199254740992, 0], [1, 1, 4398046511104, 8796093022208, 17592186044416, 1, 70368744177664, 140737488355328, 281474976710656, 562949953421312, 1161084278931456, 2199023255552, 4503599627370496, 11258999068426240], 7167, 272⟩⟩, ⟨[0], .nil, default⟩]
theorem sha_Hasher_Write.comp : ∃ c, Tryd.f19.body = some c ∧ comp PP 64 c sha_Hasher_Write.hints = some (sha_Hasher_Write.ic, []) := ⟨_, rfl, by kernel_rfl⟩
theorem sha_Hasher_Write.res : compRess PP Tryd.f19.results.toList = some [] := by kernel_rfl
theorem sha_Hasher_Write.start {args : List Value} {w : World} {R : Value → World → Prop} (ha : args.length ≤ 64)
    (h : IW PP sha_Hasher_Write.ic [] (argEnv args 0) w (RQ PP [] R)) : Ret PP sha_Hasher_Write.id args.toArray w R := by
  obtain ⟨c, hb, hc⟩ := sha_Hasher_Write.comp
  exact ret_iw Tryd.func19 hb rfl hc sha_Hasher_Write.res ha h

/- 20: slots: 0 r, 1 n, 2 r, 3 n, 5 v, 6 _, 7 c
  loop: 5 v, 13 , 14 , 15  -/
abbrev pack_Reader_Fixed.id : FuncId := 20
def pack_Reader_Fixed.body0 : ICode :=
  (.seq (.reg [⟨some 16, .bin .lss (.tmp 15) (.tmp 14), none⟩] [16, 15, 14, 13, 5])
  (.seq (.cond (.tmp 16) [15, 14, 13, 5] [5]
    .skip
    (.exit 0))
  (.seq (.block 1 (.seq (.reg [⟨some 17, .idxL 1 (.tmp 13) (.tmp 15), none⟩,
        ⟨some 18, .ld (.int .u8) (.tmp 17), none⟩,
        ⟨some 7, .mv (.tmp 18), none⟩] [15, 14, 13, 7, 5])
    (.reg [⟨some 19, .mv (.tmp 5), none⟩,
        ⟨some 20, .shlC 8 (.tmp 19), none⟩,
        ⟨some 21, .mv (.tmp 7), none⟩,
        ⟨some 22, .cvInt .u64 (.tmp 21), none⟩,
        ⟨some 23, .bin .or (.tmp 20) (.tmp 22), none⟩,
        ⟨some 5, .mv (.tmp 23), none⟩] [15, 14, 13, 5])))
  (.reg [⟨some 24, .bin .add (.tmp 15) (.const (.int .i64 1)), none⟩,
      ⟨some 15, .mv (.tmp 24), none⟩] [15, 14, 13, 5]))))
def pack_Reader_Fixed.ic : ICode :=
  (.seq (.reg [⟨some 4, .mv (.const (.int .u64 0)), none⟩] [1, 0])
  (.seq (.reg [⟨some 5, .mv (.const (.int .u64 0)), none⟩] [5, 1, 0])
  (.seq (.seq (.reg [⟨some 8, .mv (.tmp 0), none⟩,
      ⟨some 9, .mv (.tmp 1), none⟩,
      ⟨some 10, .maxI (.tmp 9) (.const (.int .i64 1)), none⟩,
      ⟨some 11, .minI (.tmp 10) (.const (.int .i64 8)), none⟩,
      ⟨some 12, .call 21 [(.tmp 8), (.tmp 11)], none⟩,
      ⟨some 13, .cvBytes 5 (.tmp 12), none⟩,
      ⟨some 14, .lenL (.tmp 13), none⟩,
      ⟨some 15, .mv (.const (.int .i64 0)), none⟩] [15, 14, 13, 5])
  (.block 0 (.loop pack_Reader_Fixed.body0)))
  (.seq (.reg [⟨some 25, .mv (.tmp 5), none⟩,
      ⟨some 4, .mv (.tmp 25), none⟩] [4])
  .ret))))
def pack_Reader_Fixed.hints : List Hint := [⟨[1, 0], .nil, default⟩, ⟨[5, 1, 0], .nil, default⟩, ⟨[15, 14, 13, 5], .nil, default⟩, ⟨[16, 15, 14, 13, 5], .nil, default⟩, ⟨[15, 14, 13, 5], .nil, default⟩, ⟨[5], .nil, default⟩, ⟨[15, 14, 13, 7, 5], .nil, default⟩, ⟨[15, 14, 13, 5], .nil, default⟩, ⟨[15, 14, 13, 5], .nil, default⟩, ⟨[4], .nil, default⟩]
theorem pack_Reader_Fixed.comp : ∃ c, Tryd.f20.body = some c ∧ comp PP 26 c pack_Reader_Fixed.hints = some (pack_Reader_Fixed.ic, []) := ⟨_, rfl, by kernel_rfl⟩
theorem pack_Reader_Fixed.res : compRess PP Tryd.f20.results.toList = some [.mv (.tmp 4)] := by kernel_rfl
theorem pack_Reader_Fixed.start {args : List Value} {w : World} {R : Value → World → Prop} (ha : args.length ≤ 26)
    (h : IW PP pack_Reader_Fixed.ic [] (argEnv args 0) w (RQ PP [.mv (.tmp 4)] R)) : Ret PP pack_Reader_Fixed.id args.toArray w R := by
  obtain ⟨c, hb, hc⟩ := pack_Reader_Fixed.comp
  exact ret_iw Tryd.func20 hb rfl hc pack_Reader_Fixed.res ha h

/- 21: slots: 0 r, 1 n, 2 r, 3 n -/
abbrev pack_Reader_Raw.id : FuncId := 21
def pack_Reader_Raw.ic : ICode :=
  (.seq (.reg [⟨some 4, .mv (.const (.string { data := #[] })), none⟩] [1, 0])
  (.seq (.seq (.reg [⟨some 5, .mv (.tmp 0), none⟩,
      ⟨some 6, .nilck (.tmp 5), none⟩,
      ⟨some 7, .fldA 2 (.tmp 6), none⟩,
      ⟨some 8, .ld (.int .i64) (.tmp 7), none⟩,
      ⟨some 9, .bin .neq (.tmp 8) (.const (.int .i64 0)), none⟩] [9, 1, 0])
  (.cond (.tmp 9) [] [1, 0]
    (.seq (.reg [⟨some 4, .mv (.const (.string { data := #[] })), none⟩] [4])
    .ret)
    .skip))
  (.seq (.seq (.regD (.first true ⟨some 10, .mv (.tmp 1), none⟩
    (.first true ⟨some 11, .bin .lss (.tmp 10) (.const (.int .i64 0)), none⟩
    (.first true ⟨some 12, .mv (.tmp 11), none⟩
    (.first true ⟨some 13, .mv (.tmp 1), some (12, false)⟩
    (.first true ⟨some 14, .mv (.tmp 0), some (12, false)⟩
    (.first true ⟨some 15, .nilck (.tmp 14), some (12, false)⟩
    (.first true ⟨some 16, .fldA 0 (.tmp 15), some (12, false)⟩
    (.first true ⟨some 19, .mv (.tmp 0), some (12, false)⟩
    (.first true ⟨some 20, .nilck (.tmp 19), some (12, false)⟩
    (.first true ⟨some 21, .fldA 1 (.tmp 20), some (12, false)⟩
    (.first false ⟨some 17, .ld .string (.tmp 16), some (12, false)⟩
    (.first true ⟨some 18, .lenS (.tmp 17), some (12, false)⟩
    (.first false ⟨some 22, .ld (.int .i64) (.tmp 21), some (12, false)⟩
    (.first true ⟨some 23, .bin .sub (.tmp 18) (.tmp 22), some (12, false)⟩
    (.first true ⟨some 24, .bin .gtr (.tmp 13) (.tmp 23), some (12, false)⟩
    (.first true ⟨some 25, .pick (.tmp 12) (.const (.bool true)) (.tmp 24), none⟩
    .nil)))))))))))))))) [25, 1, 0])
  (.cond (.tmp 25) [0] [1, 0]
    (.seq (.reg [⟨some 26, .mv (.tmp 0), none⟩,
        ⟨some 27, .nilck (.tmp 26), none⟩,
        ⟨some 28, .fldA 2 (.tmp 27), none⟩,
        ⟨none, .st (.tmp 28) (.const (.int .i64 2)), none⟩] [])
    (.seq (.reg [⟨some 4, .mv (.const (.string { data := #[] })), none⟩] [4])
    .ret))
    .skip))
  (.seq (.reg [⟨some 29, .mv (.tmp 0), none⟩,
      ⟨some 30, .nilck (.tmp 29), none⟩,
      ⟨some 31, .fldA 1 (.tmp 30), none⟩,
      ⟨some 32, .ld (.int .i64) (.tmp 31), none⟩,
      ⟨some 33, .mv (.tmp 1), none⟩,
      ⟨some 34, .bin .add (.tmp 32) (.tmp 33), none⟩,
      ⟨some 35, .nilck (.tmp 29), none⟩,
      ⟨some 36, .fldA 1 (.tmp 35), none⟩,
      ⟨none, .st (.tmp 36) (.tmp 34), none⟩] [1, 0])
  (.seq (.regD (.first true ⟨some 37, .mv (.tmp 0), none⟩
    (.first true ⟨some 38, .nilck (.tmp 37), none⟩
    (.first true ⟨some 39, .fldA 0 (.tmp 38), none⟩
    (.first true ⟨some 41, .mv (.tmp 0), none⟩
    (.first true ⟨some 42, .nilck (.tmp 41), none⟩
    (.first true ⟨some 43, .fldA 1 (.tmp 42), none⟩
    (.first true ⟨some 45, .mv (.tmp 1), none⟩
    (.first true ⟨some 47, .mv (.tmp 0), none⟩
    (.first true ⟨some 48, .nilck (.tmp 47), none⟩
    (.first true ⟨some 49, .fldA 1 (.tmp 48), none⟩
    (.first false ⟨some 40, .ld .string (.tmp 39), none⟩
    (.first false ⟨some 44, .ld (.int .i64) (.tmp 43), none⟩
    (.first true ⟨some 46, .bin .sub (.tmp 44) (.tmp 45), none⟩
    (.first false ⟨some 50, .ld (.int .i64) (.tmp 49), none⟩
    (.first true ⟨some 51, .slcS (.tmp 40) (some (.tmp 46)) (some (.tmp 50)), none⟩
    (.first true ⟨some 4, .mv (.tmp 51), none⟩
    .nil)))))))))))))))) [4])
  .ret)))))
def pack_Reader_Raw.hints : List Hint := [⟨[1, 0], .nil, default⟩, ⟨[9, 1, 0], .nil, default⟩, ⟨[], .nil, default⟩, ⟨[1, 0], .nil, default⟩, ⟨[4], .nil, default⟩, ⟨[25, 1, 0], (.first true 0 0 (.first true 1 1 (.first true 2 3 (.first true 3 16375 (.first true 4 7695 (.first true 5 7711 (.first true 6 7743 (.first true 9 511 (.first true 10 1023 (.first true 11 2047 (.first false 7 7807 (.first true 8 7935 (.first false 12 4095 (.first true 13 8191 (.first true 14 16383 (.first true 15 32767 .nil)))))))))))))))), ⟨[0, 1, 2, 4, 4, 20, 36, 68, 132, 4, 516, 1028, 2052, 4356, 8204, 16388], [1024, 2048, 4096, 8192, 16384, 32768, 65536, 131072, 262144, 524288, 1048576, 2097152, 4194304, 8388608, 16777216, 33554432], [2, 1024, 2048, 4098, 4097, 20480, 36864, 69632, 135168, 4097, 528384, 1052672, 2101248, 4460544, 8400896, 16781312], 65535, 4224⟩⟩, ⟨[0], .nil, default⟩, ⟨[1, 0], .nil, default⟩, ⟨[], .nil, default⟩, ⟨[4], .nil, default⟩, ⟨[1, 0], .nil, default⟩, ⟨[4], (.first true 0 16368 (.first true 1 16369 (.first true 2 16371 (.first true 4 15631 (.first true 5 15647 (.first true 6 15679 (.first true 8 15615 (.first true 10 1023 (.first true 11 2047 (.first true 12 4095 (.first false 3 16375 (.first false 7 15743 (.first true 9 15871 (.first false 13 8191 (.first true 14 16383 (.first true 15 32767 .nil)))))))))))))))), ⟨[0, 1, 2, 4, 0, 16, 32, 64, 0, 384, 0, 1024, 2048, 4096, 8712, 32767], [137438953472, 274877906944, 549755813888, 1099511627776, 2199023255552, 4398046511104, 8796093022208, 17592186044416, 35184372088832, 70368744177664, 140737488355328, 281474976710656, 562949953421312, 1125899906842624, 2251799813685248, 16], [1, 137438953472, 274877906944, 549755813888, 1, 2199023255552, 4398046511104, 8796093022208, 2, 52776558133248, 1, 140737488355328, 281474976710656, 562949953421312, 1197368162648064, 2251799813685248], 65535, 8328⟩⟩]
theorem pack_Reader_Raw.comp : ∃ c, Tryd.f21.body = some c ∧ comp PP 52 c pack_Reader_Raw.hints = some (pack_Reader_Raw.ic, []) := ⟨_, rfl, by kernel_rfl⟩
theorem pack_Reader_Raw.res : compRess PP Tryd.f21.results.toList = some [.mv (.tmp 4)] := by kernel_rfl
theorem pack_Reader_Raw.start {args : List Value} {w : World} {R : Value → World → Prop} (ha : args.length ≤ 52)
    (h : IW PP pack_Reader_Raw.ic [] (argEnv args 0) w (RQ PP [.mv (.tmp 4)] R)) : Ret PP pack_Reader_Raw.id args.toArray w R := by
  obtain ⟨c, hb, hc⟩ := pack_Reader_Raw.comp
  exact ret_iw Tryd.func21 hb rfl hc pack_Reader_Raw.res ha h

/- 22: slots: 0 h, 1 h, 3 state, 4 b, 5 out, 6 i, 7 v
  loop: 0 h, 2 , 3 state, 4 b
  loop: 2 , 3 state, 4 b
  loop: 2 , 5 out, 50 , 51  -/
abbrev sha_Hasher_Sum.id : FuncId := 22
def sha_Hasher_Sum.body2 : ICode :=
  (.seq (.reg [⟨some 52, .bin .lss (.tmp 51) (.const (.int .i64 8)), none⟩] [52, 51, 50, 5, 2])
  (.seq (.cond (.tmp 52) [51, 50, 5, 2] [5, 2]
    .skip
    (.exit 4))
  (.seq (.block 5 (.seq (.reg [⟨some 53, .mv (.tmp 51), none⟩,
        ⟨some 54, .idxV (.int .u32) 8 (.tmp 50) (.tmp 51), none⟩,
        ⟨some 6, .mv (.tmp 53), none⟩,
        ⟨some 7, .mv (.tmp 54), none⟩] [51, 50, 7, 6, 5, 2])
    (.reg [⟨some 55, .mv (.tmp 6), none⟩,
        ⟨some 56, .bin .mul (.const (.int .i64 4)) (.tmp 55), none⟩,
        ⟨some 57, .mv (.tmp 6), none⟩,
        ⟨some 58, .bin .mul (.const (.int .i64 4)) (.tmp 57), none⟩,
        ⟨some 59, .bin .add (.tmp 58) (.const (.int .i64 1)), none⟩,
        ⟨some 60, .mv (.tmp 6), none⟩,
        ⟨some 61, .bin .mul (.const (.int .i64 4)) (.tmp 60), none⟩,
        ⟨some 62, .bin .add (.tmp 61) (.const (.int .i64 2)), none⟩,
        ⟨some 63, .mv (.tmp 6), none⟩,
        ⟨some 64, .bin .mul (.const (.int .i64 4)) (.tmp 63), none⟩,
        ⟨some 65, .bin .add (.tmp 64) (.const (.int .i64 3)), none⟩,
        ⟨some 66, .mv (.tmp 7), none⟩,
        ⟨some 67, .shrC 24 (.tmp 66), none⟩,
        ⟨some 68, .cvInt .u8 (.tmp 67), none⟩,
        ⟨some 69, .mv (.tmp 7), none⟩,
        ⟨some 70, .shrC 16 (.tmp 69), none⟩,
        ⟨some 71, .cvInt .u8 (.tmp 70), none⟩,
        ⟨some 72, .mv (.tmp 7), none⟩,
        ⟨some 73, .shrC 8 (.tmp 72), none⟩,
        ⟨some 74, .cvInt .u8 (.tmp 73), none⟩,
        ⟨some 75, .mv (.tmp 7), none⟩,
        ⟨some 76, .cvInt .u8 (.tmp 75), none⟩,
        ⟨some 77, .idxA 32 1 (.tmp 5) (.tmp 56), none⟩,
        ⟨none, .st (.tmp 77) (.tmp 68), none⟩,
        ⟨some 78, .idxA 32 1 (.tmp 5) (.tmp 59), none⟩,
        ⟨none, .st (.tmp 78) (.tmp 71), none⟩,
        ⟨some 79, .idxA 32 1 (.tmp 5) (.tmp 62), none⟩,
        ⟨none, .st (.tmp 79) (.tmp 74), none⟩,
        ⟨some 80, .idxA 32 1 (.tmp 5) (.tmp 65), none⟩,
        ⟨none, .st (.tmp 80) (.tmp 76), none⟩] [51, 50, 5, 2])))
  (.reg [⟨some 81, .bin .add (.tmp 51) (.const (.int .i64 1)), none⟩,
      ⟨some 51, .mv (.tmp 81), none⟩] [51, 50, 5, 2]))))
def sha_Hasher_Sum.body1 : ICode :=
  (.seq (.seq (.reg [⟨some 41, .mv (.tmp 4), none⟩,
      ⟨some 42, .lenL (.tmp 41), none⟩,
      ⟨some 43, .bin .gtr (.tmp 42) (.const (.int .i64 0)), none⟩] [43, 4, 3, 2])
  (.cond (.tmp 43) [4, 3, 2] [3, 2]
    .skip
    (.exit 2)))
  (.seq (.block 3 (.regD (.first true ⟨some 47, .mv (.tmp 4), none⟩
    (.first true ⟨some 48, .slcL 1 (.tmp 47) none (some (.const (.int .i64 64))), none⟩
    (.first false ⟨some 46, .ldN 8 (.tmp 3), none⟩
    (.one false ⟨some 49, .call 28 [(.tmp 46), (.tmp 48)], none⟩
    (.one false ⟨none, .stN 8 (.tmp 3) (.tmp 49), none⟩
    .nil))))) [4, 3, 2]))
  (.reg [⟨some 44, .mv (.tmp 4), none⟩,
      ⟨some 45, .slcL 1 (.tmp 44) (some (.const (.int .i64 64))) none, none⟩,
      ⟨some 4, .mv (.tmp 45), none⟩] [4, 3, 2])))
def sha_Hasher_Sum.body0 : ICode :=
  (.seq (.seq (.reg [⟨some 25, .mv (.tmp 4), none⟩,
      ⟨some 26, .lenL (.tmp 25), none⟩,
      ⟨some 27, .bin .rem (.tmp 26) (.const (.int .i64 64)), none⟩,
      ⟨some 28, .bin .neq (.tmp 27) (.const (.int .i64 56)), none⟩] [28, 4, 3, 2, 0])
  (.cond (.tmp 28) [4, 3, 2, 0] [4, 3, 2, 0]
    .skip
    (.exit 0)))
  (.block 1 (.reg [⟨some 29, .mv (.tmp 4), none⟩,
        ⟨some 30, .buildSl 5 1 #[.int .u8 0] [(0, 1, (.const (.int .u8 0)))], none⟩,
        ⟨some 31, .app 5 1 1 #[.int .u8 0] (.tmp 29) (.tmp 30), none⟩,
        ⟨some 4, .mv (.tmp 31), none⟩] [4, 3, 2, 0])))
def sha_Hasher_Sum.ic : ICode :=
  (.seq (.reg [⟨some 2, .alloc 23 (.agg (Array.replicate 32 (.int .u8 0))), none⟩] [2, 0])
  (.seq (.reg [⟨some 8, .ldN 8 (.global 0), none⟩,
      ⟨some 3, .alloc 46 (.agg (Array.replicate 8 (.int .u32 0))), none⟩,
      ⟨none, .stN 8 (.tmp 3) (.tmp 8), none⟩] [3, 2, 0])
  (.seq (.seq (.reg [⟨some 9, .mv (.tmp 0), none⟩,
      ⟨some 10, .nilck (.tmp 9), none⟩,
      ⟨some 11, .fldA 0 (.tmp 10), none⟩,
      ⟨some 12, .ld .bool (.tmp 11), none⟩] [12, 3, 2, 0])
  (.cond (.tmp 12) [3, 2, 0] [3, 2, 0]
    (.reg [⟨some 13, .mv (.tmp 0), none⟩,
        ⟨some 14, .nilck (.tmp 13), none⟩,
        ⟨some 15, .fldA 1 (.tmp 14), none⟩,
        ⟨some 16, .ldN 8 (.tmp 15), none⟩,
        ⟨none, .stN 8 (.tmp 3) (.tmp 16), none⟩] [3, 2, 0])
    .skip))
  (.seq (.reg [⟨some 17, .buildSl 5 0 #[] [], none⟩,
      ⟨some 18, .mv (.tmp 0), none⟩,
      ⟨some 19, .nilck (.tmp 18), none⟩,
      ⟨some 20, .fldA 9 (.tmp 19), none⟩,
      ⟨some 21, .ld .slice (.tmp 20), none⟩,
      ⟨some 22, .app 5 1 1 #[.int .u8 0] (.tmp 17) (.tmp 21), none⟩,
      ⟨some 23, .buildSl 5 1 #[.int .u8 0] [(0, 1, (.const (.int .u8 128)))], none⟩,
      ⟨some 24, .app 5 1 1 #[.int .u8 0] (.tmp 22) (.tmp 23), none⟩,
      ⟨some 4, .mv (.tmp 24), none⟩] [4, 3, 2, 0])
  (.seq (.block 0 (.loop sha_Hasher_Sum.body0))
  (.seq (.reg [⟨some 32, .mv (.tmp 4), none⟩,
      ⟨some 33, .mv (.tmp 0), none⟩,
      ⟨some 34, .nilck (.tmp 33), none⟩,
      ⟨some 35, .fldA 10 (.tmp 34), none⟩,
      ⟨some 36, .ld (.int .u64) (.tmp 35), none⟩,
      ⟨some 37, .bin .mul (.const (.int .u64 8)) (.tmp 36), none⟩,
      ⟨some 38, .call 30 [(.tmp 37)], none⟩,
      ⟨some 39, .call 29 [(.tmp 38), (.const (.int .i64 8))], none⟩,
      ⟨some 40, .appS 5 (.tmp 32) (.tmp 39), none⟩,
      ⟨some 4, .mv (.tmp 40), none⟩] [4, 3, 2])
  (.seq (.block 2 (.loop sha_Hasher_Sum.body1))
  (.seq (.reg [⟨some 5, .alloc 23 (.agg (Array.replicate 32 (.int .u8 0))), none⟩] [5, 3, 2])
  (.seq (.seq (.reg [⟨some 50, .ldN 8 (.tmp 3), none⟩,
      ⟨some 51, .mv (.const (.int .i64 0)), none⟩] [51, 50, 5, 2])
  (.block 4 (.loop sha_Hasher_Sum.body2)))
  (.seq (.reg [⟨some 82, .ldN 32 (.tmp 5), none⟩,
      ⟨none, .stN 32 (.tmp 2) (.tmp 82), none⟩] [2])
  .ret))))))))))
def sha_Hasher_Sum.hints : List Hint := [⟨[2, 0], .nil, default⟩, ⟨[3, 2, 0], .nil, default⟩, ⟨[12, 3, 2, 0], .nil, default⟩, ⟨[3, 2, 0], .nil, default⟩, ⟨[3, 2, 0], .nil, default⟩, ⟨[3, 2, 0], .nil, default⟩, ⟨[4, 3, 2, 0], .nil, default⟩, ⟨[28, 4, 3, 2, 0], .nil, default⟩, ⟨[4, 3, 2, 0], .nil, default⟩, ⟨[4, 3, 2, 0], .nil, default⟩, ⟨[4, 3, 2, 0], .nil, default⟩, ⟨[4, 3, 2], .nil, default⟩, ⟨[43, 4, 3, 2], .nil, default⟩, ⟨[4, 3, 2], .nil, default⟩, ⟨[3, 2], .nil, default⟩, ⟨[4, 3, 2], (.first true 1 1 (.first true 2 3 (.first false 0 6 (.one false 3 (.one false 4 .nil))))), ⟨[0, 0, 2, 5, 15], [70368744177664, 140737488355328, 281474976710656, 562949953421312, 0], [8, 16, 140737488355328, 351843720888320, 562949953421320], 7, 1⟩⟩, ⟨[4, 3, 2], .nil, default⟩, ⟨[5, 3, 2], .nil, default⟩, ⟨[51, 50, 5, 2], .nil, default⟩, ⟨[52, 51, 50, 5, 2], .nil, default⟩, ⟨[51, 50, 5, 2], .nil, default⟩, ⟨[5, 2], .nil, default⟩, ⟨[51, 50, 7, 6, 5, 2], .nil, default⟩, ⟨[51, 50, 5, 2], .nil, default⟩, ⟨[51, 50, 5, 2], .nil, default⟩, ⟨[2], .nil, default⟩]
theorem sha_Hasher_Sum.comp : ∃ c, Tryd.f22.body = some c ∧ comp PP 83 c sha_Hasher_Sum.hints = some (sha_Hasher_Sum.ic, []) := ⟨_, rfl, by kernel_rfl⟩
theorem sha_Hasher_Sum.res : compRess PP Tryd.f22.results.toList = some [.ldN 32 (.tmp 2)] := by kernel_rfl
theorem sha_Hasher_Sum.start {args : List Value} {w : World} {R : Value → World → Prop} (ha : args.length ≤ 83)
    (h : IW PP sha_Hasher_Sum.ic [] (argEnv args 0) w (RQ PP [.ldN 32 (.tmp 2)] R)) : Ret PP sha_Hasher_Sum.id args.toArray w R := by
  obtain ⟨c, hb, hc⟩ := sha_Hasher_Sum.comp
  exact ret_iw Tryd.func22 hb rfl hc sha_Hasher_Sum.res ha h

/- 23: slots: 0 r, 1 r -/
abbrev pack_Reader_Done.id : FuncId := 23
def pack_Reader_Done.ic : ICode :=
  (.seq (.reg [⟨some 2, .mv (.const (.int .i64 0)), none⟩] [0])
  (.seq (.seq (.regD (.first true ⟨some 3, .mv (.tmp 0), none⟩
    (.first true ⟨some 4, .nilck (.tmp 3), none⟩
    (.first true ⟨some 5, .fldA 1 (.tmp 4), none⟩
    (.first true ⟨some 7, .mv (.tmp 0), none⟩
    (.first true ⟨some 8, .nilck (.tmp 7), none⟩
    (.first true ⟨some 9, .fldA 0 (.tmp 8), none⟩
    (.first false ⟨some 6, .ld (.int .i64) (.tmp 5), none⟩
    (.first false ⟨some 10, .ld .string (.tmp 9), none⟩
    (.first true ⟨some 11, .lenS (.tmp 10), none⟩
    (.first true ⟨some 12, .bin .lss (.tmp 6) (.tmp 11), none⟩
    .nil)))))))))) [12, 0])
  (.cond (.tmp 12) [0] [0]
    (.reg [⟨some 13, .mv (.tmp 0), none⟩,
        ⟨some 14, .call 31 [(.tmp 13), (.const (.int .i64 3))], none⟩] [0])
    .skip))
  (.seq (.reg [⟨some 15, .mv (.tmp 0), none⟩,
      ⟨some 16, .nilck (.tmp 15), none⟩,
      ⟨some 17, .fldA 2 (.tmp 16), none⟩,
      ⟨some 18, .ld (.int .i64) (.tmp 17), none⟩,
      ⟨some 2, .mv (.tmp 18), none⟩] [2])
  .ret)))
def pack_Reader_Done.hints : List Hint := [⟨[0], .nil, default⟩, ⟨[12, 0], (.first true 0 496 (.first true 1 497 (.first true 2 499 (.first true 4 15 (.first true 5 31 (.first true 6 63 (.first false 3 503 (.first false 7 127 (.first true 8 255 (.first true 9 511 .nil)))))))))), ⟨[0, 1, 2, 4, 0, 16, 32, 64, 128, 264], [8, 16, 32, 64, 128, 256, 512, 1024, 2048, 4096], [1, 8, 16, 32, 1, 128, 256, 512, 1024, 2112], 1023, 136⟩⟩, ⟨[0], .nil, default⟩, ⟨[0], .nil, default⟩, ⟨[0], .nil, default⟩, ⟨[2], .nil, default⟩]
theorem pack_Reader_Done.comp : ∃ c, Tryd.f23.body = some c ∧ comp PP 19 c pack_Reader_Done.hints = some (pack_Reader_Done.ic, []) := ⟨_, rfl, by kernel_rfl⟩
theorem pack_Reader_Done.res : compRess PP Tryd.f23.results.toList = some [.mv (.tmp 2)] := by kernel_rfl
theorem pack_Reader_Done.start {args : List Value} {w : World} {R : Value → World → Prop} (ha : args.length ≤ 19)
    (h : IW PP pack_Reader_Done.ic [] (argEnv args 0) w (RQ PP [.mv (.tmp 2)] R)) : Ret PP pack_Reader_Done.id args.toArray w R := by
  obtain ⟨c, hb, hc⟩ := pack_Reader_Done.comp
  exact ret_iw Tryd.func23 hb rfl hc pack_Reader_Done.res ha h

/- 24: slots: 0 sum, 1 s, 2 sum, 3 s, 5 c, 6 i, 7 b
  loop: 1 s, 5 c, 11 , 12  -/
abbrev crc_More.id : FuncId := 24
def crc_More.body0 : ICode :=
  (.seq (.reg [⟨some 13, .bin .lss (.tmp 12) (.tmp 11), none⟩] [13, 12, 11, 5, 1])
  (.seq (.cond (.tmp 13) [12, 11, 5, 1] [5]
    .skip
    (.exit 0))
  (.seq (.block 1 (.seq (.reg [⟨some 14, .mv (.tmp 12), none⟩,
        ⟨some 6, .mv (.tmp 14), none⟩] [12, 11, 6, 5, 1])
    (.seq (.reg [⟨some 15, .mv (.tmp 1), none⟩,
        ⟨some 16, .mv (.tmp 6), none⟩,
        ⟨some 17, .idxS (.tmp 15) (.tmp 16), none⟩,
        ⟨some 18, .cvInt .u32 (.tmp 17), none⟩,
        ⟨some 7, .mv (.tmp 18), none⟩] [12, 11, 7, 5, 1])
    (.seq (.reg [⟨some 19, .mv (.tmp 5), none⟩,
        ⟨some 20, .shrC 4 (.tmp 19), none⟩,
        ⟨some 21, .mv (.tmp 5), none⟩,
        ⟨some 22, .mv (.tmp 7), none⟩,
        ⟨some 23, .bin .xor (.tmp 21) (.tmp 22), none⟩,
        ⟨some 24, .bin .and (.tmp 23) (.const (.int .u32 15)), none⟩,
        ⟨some 25, .idxA 16 1 (.global 1) (.tmp 24), none⟩,
        ⟨some 26, .ld (.int .u32) (.tmp 25), none⟩,
        ⟨some 27, .bin .xor (.tmp 20) (.tmp 26), none⟩,
        ⟨some 5, .mv (.tmp 27), none⟩] [12, 11, 7, 5, 1])
    (.reg [⟨some 28, .mv (.tmp 5), none⟩,
        ⟨some 29, .shrC 4 (.tmp 28), none⟩,
        ⟨some 30, .mv (.tmp 5), none⟩,
        ⟨some 31, .mv (.tmp 7), none⟩,
        ⟨some 32, .shrC 4 (.tmp 31), none⟩,
        ⟨some 33, .bin .xor (.tmp 30) (.tmp 32), none⟩,
        ⟨some 34, .bin .and (.tmp 33) (.const (.int .u32 15)), none⟩,
        ⟨some 35, .idxA 16 1 (.global 1) (.tmp 34), none⟩,
        ⟨some 36, .ld (.int .u32) (.tmp 35), none⟩,
        ⟨some 37, .bin .xor (.tmp 29) (.tmp 36), none⟩,
        ⟨some 5, .mv (.tmp 37), none⟩] [12, 11, 5, 1])))))
  (.reg [⟨some 38, .bin .add (.tmp 12) (.const (.int .i64 1)), none⟩,
      ⟨some 12, .mv (.tmp 38), none⟩] [12, 11, 5, 1]))))
def crc_More.ic : ICode :=
  (.seq (.reg [⟨some 4, .mv (.const (.int .u32 0)), none⟩] [1, 0])
  (.seq (.reg [⟨some 8, .mv (.tmp 0), none⟩,
      ⟨some 9, .un .xor (.tmp 8), none⟩,
      ⟨some 5, .mv (.tmp 9), none⟩] [5, 1])
  (.seq (.seq (.reg [⟨some 10, .mv (.tmp 1), none⟩,
      ⟨some 11, .lenS (.tmp 10), none⟩,
      ⟨some 12, .mv (.const (.int .i64 0)), none⟩] [12, 11, 5, 1])
  (.block 0 (.loop crc_More.body0)))
  (.seq (.reg [⟨some 39, .mv (.tmp 5), none⟩,
      ⟨some 40, .un .xor (.tmp 39), none⟩,
      ⟨some 4, .mv (.tmp 40), none⟩] [4])
  .ret))))
def crc_More.hints : List Hint := [⟨[1, 0], .nil, default⟩, ⟨[5, 1], .nil, default⟩, ⟨[12, 11, 5, 1], .nil, default⟩, ⟨[13, 12, 11, 5, 1], .nil, default⟩, ⟨[12, 11, 5, 1], .nil, default⟩, ⟨[5], .nil, default⟩, ⟨[12, 11, 6, 5, 1], .nil, default⟩, ⟨[12, 11, 7, 5, 1], .nil, default⟩, ⟨[12, 11, 7, 5, 1], .nil, default⟩, ⟨[12, 11, 5, 1], .nil, default⟩, ⟨[12, 11, 5, 1], .nil, default⟩, ⟨[4], .nil, default⟩]
theorem crc_More.comp : ∃ c, Tryd.f24.body = some c ∧ comp PP 41 c crc_More.hints = some (crc_More.ic, []) := ⟨_, rfl, by kernel_rfl⟩
theorem crc_More.res : compRess PP Tryd.f24.results.toList = some [.mv (.tmp 4)] := by kernel_rfl
theorem crc_More.start {args : List Value} {w : World} {R : Value → World → Prop} (ha : args.length ≤ 41)
    (h : IW PP crc_More.ic [] (argEnv args 0) w (RQ PP [.mv (.tmp 4)] R)) : Ret PP crc_More.id args.toArray w R := by
  obtain ⟨c, hb, hc⟩ := crc_More.comp
  exact ret_iw Tryd.func24 hb rfl hc crc_More.res ha h

/- 25: slots: 0 v, 1 n, 2 v, 3 n -/
abbrev word_Low.id : FuncId := 25
def word_Low.ic : ICode :=
  (.seq (.reg [⟨some 4, .mv (.const (.int .u64 0)), none⟩] [1, 0])
  (.seq (.block 0 (.seq (.reg [⟨some 6, .mv (.tmp 1), none⟩,
        ⟨some 7, .bin .leq (.tmp 6) (.const (.int .i64 0)), none⟩,
        ⟨some 5, .mv (.tmp 7), none⟩] [5, 1, 0])
    (.cond (.tmp 5) [] [1, 0]
      (.seq (.reg [⟨some 4, .mv (.const (.int .u64 0)), none⟩] [4])
      .ret)
      (.seq (.reg [⟨some 9, .mv (.tmp 1), none⟩,
          ⟨some 10, .bin .geq (.tmp 9) (.const (.int .i64 64)), none⟩,
          ⟨some 8, .mv (.tmp 10), none⟩] [8, 1, 0])
      (.cond (.tmp 8) [0] [1, 0]
        (.seq (.reg [⟨some 11, .mv (.tmp 0), none⟩,
            ⟨some 4, .mv (.tmp 11), none⟩] [4])
        .ret)
        .skip)))))
  (.seq (.reg [⟨some 12, .mv (.tmp 0), none⟩,
      ⟨some 13, .mv (.tmp 1), none⟩,
      ⟨some 14, .bin .shl (.const (.int .u64 1)) (.tmp 13), none⟩,
      ⟨some 15, .bin .sub (.tmp 14) (.const (.int .u64 1)), none⟩,
      ⟨some 16, .bin .and (.tmp 12) (.tmp 15), none⟩,
      ⟨some 4, .mv (.tmp 16), none⟩] [4])
  .ret)))
def word_Low.hints : List Hint := [⟨[1, 0], .nil, default⟩, ⟨[5, 1, 0], .nil, default⟩, ⟨[], .nil, default⟩, ⟨[1, 0], .nil, default⟩, ⟨[4], .nil, default⟩, ⟨[8, 1, 0], .nil, default⟩, ⟨[0], .nil, default⟩, ⟨[1, 0], .nil, default⟩, ⟨[4], .nil, default⟩, ⟨[4], .nil, default⟩]
theorem word_Low.comp : ∃ c, Tryd.f25.body = some c ∧ comp PP 17 c word_Low.hints = some (word_Low.ic, []) := ⟨_, rfl, by kernel_rfl⟩
theorem word_Low.res : compRess PP Tryd.f25.results.toList = some [.mv (.tmp 4)] := by kernel_rfl
theorem word_Low.start {args : List Value} {w : World} {R : Value → World → Prop} (ha : args.length ≤ 17)
    (h : IW PP word_Low.ic [] (argEnv args 0) w (RQ PP [.mv (.tmp 4)] R)) : Ret PP word_Low.id args.toArray w R := by
  obtain ⟨c, hb, hc⟩ := word_Low.comp
  exact ret_iw Tryd.func25 hb rfl hc word_Low.res ha h

/- 26: slots: 0 v, 1 v -/
abbrev word_First.id : FuncId := 26
def word_First.ic : ICode :=
  (.seq (.reg [⟨some 2, .mv (.const (.int .i64 0)), none⟩] [0])
  (.seq (.seq (.reg [⟨some 3, .mv (.tmp 0), none⟩,
      ⟨some 4, .bin .eql (.tmp 3) (.const (.int .u64 0)), none⟩] [4, 0])
  (.cond (.tmp 4) [] [0]
    (.seq (.reg [⟨some 2, .mv (.const (.int .i64 64)), none⟩] [2])
    .ret)
    .skip))
  (.seq (.reg [⟨some 5, .mv (.tmp 0), none⟩,
      ⟨some 6, .mv (.tmp 0), none⟩,
      ⟨some 7, .un .neg (.tmp 6), none⟩,
      ⟨some 8, .bin .and (.tmp 5) (.tmp 7), none⟩,
      ⟨some 9, .bin .sub (.tmp 8) (.const (.int .u64 1)), none⟩,
      ⟨some 10, .call 32 [(.tmp 9)], none⟩,
      ⟨some 2, .mv (.tmp 10), none⟩] [2])
  .ret)))
def word_First.hints : List Hint := [⟨[0], .nil, default⟩, ⟨[4, 0], .nil, default⟩, ⟨[], .nil, default⟩, ⟨[0], .nil, default⟩, ⟨[2], .nil, default⟩, ⟨[2], .nil, default⟩]
theorem word_First.comp : ∃ c, Tryd.f26.body = some c ∧ comp PP 11 c word_First.hints = some (word_First.ic, []) := ⟨_, rfl, by kernel_rfl⟩
theorem word_First.res : compRess PP Tryd.f26.results.toList = some [.mv (.tmp 2)] := by kernel_rfl
theorem word_First.start {args : List Value} {w : World} {R : Value → World → Prop} (ha : args.length ≤ 11)
    (h : IW PP word_First.ic [] (argEnv args 0) w (RQ PP [.mv (.tmp 2)] R)) : Ret PP word_First.id args.toArray w R := by
  obtain ⟨c, hb, hc⟩ := word_First.comp
  exact ret_iw Tryd.func26 hb rfl hc word_First.res ha h

/- 27: slots: 0 v, 1 v, 3 n
  loop: 0 v, 3 n -/
abbrev pack_width.id : FuncId := 27
def pack_width.body0 : ICode :=
  (.seq (.seq (.reg [⟨some 4, .mv (.tmp 0), none⟩,
      ⟨some 5, .shrC 8 (.tmp 4), none⟩,
      ⟨some 6, .bin .neq (.tmp 5) (.const (.int .u64 0)), none⟩] [6, 3, 0])
  (.cond (.tmp 6) [3, 0] [3]
    .skip
    (.exit 0)))
  (.block 1 (.seq (.reg [⟨some 7, .mv (.tmp 0), none⟩,
        ⟨some 8, .shrC 8 (.tmp 7), none⟩,
        ⟨some 0, .mv (.tmp 8), none⟩] [3, 0])
    (.reg [⟨some 9, .mv (.tmp 3), none⟩,
        ⟨some 10, .bin .add (.tmp 9) (.const (.int .i64 1)), none⟩,
        ⟨some 3, .mv (.tmp 10), none⟩] [3, 0]))))
def pack_width.ic : ICode :=
  (.seq (.reg [⟨some 2, .mv (.const (.int .i64 0)), none⟩] [0])
  (.seq (.reg [⟨some 3, .mv (.const (.int .i64 1)), none⟩] [3, 0])
  (.seq (.block 0 (.loop pack_width.body0))
  (.seq (.reg [⟨some 11, .mv (.tmp 3), none⟩,
      ⟨some 2, .mv (.tmp 11), none⟩] [2])
  .ret))))
def pack_width.hints : List Hint := [⟨[0], .nil, default⟩, ⟨[3, 0], .nil, default⟩, ⟨[6, 3, 0], .nil, default⟩, ⟨[3, 0], .nil, default⟩, ⟨[3], .nil, default⟩, ⟨[3, 0], .nil, default⟩, ⟨[3, 0], .nil, default⟩, ⟨[2], .nil, default⟩]
theorem pack_width.comp : ∃ c, Tryd.f27.body = some c ∧ comp PP 12 c pack_width.hints = some (pack_width.ic, []) := ⟨_, rfl, by kernel_rfl⟩
theorem pack_width.res : compRess PP Tryd.f27.results.toList = some [.mv (.tmp 2)] := by kernel_rfl
theorem pack_width.start {args : List Value} {w : World} {R : Value → World → Prop} (ha : args.length ≤ 12)
    (h : IW PP pack_width.ic [] (argEnv args 0) w (RQ PP [.mv (.tmp 2)] R)) : Ret PP pack_width.id args.toArray w R := by
  obtain ⟨c, hb, hc⟩ := pack_width.comp
  exact ret_iw Tryd.func27 hb rfl hc pack_width.res ha h

/- 28: slots: 0 state, 1 b, 2 state, 3 b, 5 w, 6 v, 7 i, 8 e, 9 a, 10 t, 11 u, 12 i
  loop: 2 state, 4 , 5 w, 6 v, 16 
  loop: 2 state, 4 , 6 v, 98  -/
abbrev sha_mix.id : FuncId := 28
def sha_mix.body1 : ICode :=
  (.seq (.reg [⟨some 99, .bin .lss (.tmp 98) (.const (.int .i64 8)), none⟩] [99, 98, 6, 4, 2])
  (.seq (.cond (.tmp 99) [98, 6, 4, 2] [6, 4]
    .skip
    (.exit 2))
  (.seq (.block 3 (.seq (.reg [⟨some 100, .mv (.tmp 98), none⟩,
        ⟨some 12, .mv (.tmp 100), none⟩] [98, 12, 6, 4, 2])
    (.regD (.first true ⟨some 101, .mv (.tmp 12), none⟩
    (.first true ⟨some 102, .idxA 8 1 (.tmp 6) (.tmp 101), none⟩
    (.first true ⟨some 104, .mv (.tmp 12), none⟩
    (.first true ⟨some 105, .idxA 8 1 (.tmp 2) (.tmp 104), none⟩
    (.first false ⟨some 103, .ld (.int .u32) (.tmp 102), none⟩
    (.first false ⟨some 106, .ld (.int .u32) (.tmp 105), none⟩
    (.first true ⟨some 107, .bin .add (.tmp 103) (.tmp 106), none⟩
    (.first true ⟨some 108, .idxA 8 1 (.tmp 6) (.tmp 101), none⟩
    (.one false ⟨none, .st (.tmp 108) (.tmp 107), none⟩
    .nil))))))))) [98, 6, 4, 2])))
  (.reg [⟨some 109, .bin .add (.tmp 98) (.const (.int .i64 1)), none⟩,
      ⟨some 98, .mv (.tmp 109), none⟩] [98, 6, 4, 2]))))
def sha_mix.body0 : ICode :=
  (.seq (.reg [⟨some 17, .bin .lss (.tmp 16) (.const (.int .i64 64)), none⟩] [17, 16, 6, 5, 4, 2])
  (.seq (.cond (.tmp 17) [16, 6, 5, 4, 2] [6, 4, 2]
    .skip
    (.exit 0))
  (.seq (.block 1 (.seq (.reg [⟨some 18, .mv (.tmp 16), none⟩,
        ⟨some 7, .mv (.tmp 18), none⟩] [16, 7, 6, 5, 4, 2])
    (.seq (.regD (.first true ⟨some 19, .idxA 8 1 (.tmp 6) (.const (.int .i64 4)), none⟩
    (.first true ⟨some 21, .idxA 8 1 (.tmp 6) (.const (.int .i64 0)), none⟩
    (.first false ⟨some 20, .ld (.int .u32) (.tmp 19), none⟩
    (.first true ⟨some 8, .mv (.tmp 20), none⟩
    (.first false ⟨some 22, .ld (.int .u32) (.tmp 21), none⟩
    (.first true ⟨some 9, .mv (.tmp 22), none⟩
    .nil)))))) [16, 9, 8, 7, 6, 5, 4, 2])
    (.seq (.regD (.first true ⟨some 23, .idxA 8 1 (.tmp 6) (.const (.int .i64 7)), none⟩
    (.first true ⟨some 25, .mv (.tmp 8), none⟩
    (.first true ⟨some 27, .mv (.tmp 8), none⟩
    (.first true ⟨some 30, .mv (.tmp 8), none⟩
    (.first true ⟨some 34, .mv (.tmp 8), none⟩
    (.first true ⟨some 35, .idxA 8 1 (.tmp 6) (.const (.int .i64 5)), none⟩
    (.first true ⟨some 38, .mv (.tmp 8), none⟩
    (.first true ⟨some 39, .un .xor (.tmp 38), none⟩
    (.first true ⟨some 40, .idxA 8 1 (.tmp 6) (.const (.int .i64 6)), none⟩
    (.first true ⟨some 45, .mv (.tmp 7), none⟩
    (.first true ⟨some 46, .idxA 64 1 (.global 2) (.tmp 45), none⟩
    (.first true ⟨some 49, .mv (.tmp 7), none⟩
    (.first true ⟨some 50, .idxA 64 1 (.tmp 5) (.tmp 49), none⟩
    (.first false ⟨some 24, .ld (.int .u32) (.tmp 23), none⟩
    (.first false ⟨some 36, .ld (.int .u32) (.tmp 35), none⟩
    (.first true ⟨some 37, .bin .and (.tmp 34) (.tmp 36), none⟩
    (.first false ⟨some 41, .ld (.int .u32) (.tmp 40), none⟩
    (.first true ⟨some 42, .bin .and (.tmp 39) (.tmp 41), none⟩
    (.first true ⟨some 43, .bin .xor (.tmp 37) (.tmp 42), none⟩
    (.first false ⟨some 47, .ld (.int .u32) (.tmp 46), none⟩
    (.first false ⟨some 51, .ld (.int .u32) (.tmp 50), none⟩
    (.one true ⟨some 26, .call 34 [(.tmp 25), (.const (.int .i64 (-6)))], none⟩
    (.one true ⟨some 28, .call 34 [(.tmp 27), (.const (.int .i64 (-11)))], none⟩
    (.first true ⟨some 29, .bin .xor (.tmp 26) (.tmp 28), none⟩
    (.one true ⟨some 31, .call 34 [(.tmp 30), (.const (.int .i64 (-25)))], none⟩
    (.first true ⟨some 32, .bin .xor (.tmp 29) (.tmp 31), none⟩
    (.first true ⟨some 33, .bin .add (.tmp 24) (.tmp 32), none⟩
    (.first true ⟨some 44, .bin .add (.tmp 33) (.tmp 43), none⟩
    (.first true ⟨some 48, .bin .add (.tmp 44) (.tmp 47), none⟩
    (.first true ⟨some 52, .bin .add (.tmp 48) (.tmp 51), none⟩
    (.first true ⟨some 10, .mv (.tmp 52), none⟩
    .nil))))))))))))))))))))))))))))))) [16, 10, 9, 6, 5, 4, 2])
    (.seq (.regD (.first true ⟨some 53, .mv (.tmp 9), none⟩
    (.first true ⟨some 55, .mv (.tmp 9), none⟩
    (.first true ⟨some 58, .mv (.tmp 9), none⟩
    (.first true ⟨some 61, .mv (.tmp 9), none⟩
    (.first true ⟨some 62, .idxA 8 1 (.tmp 6) (.const (.int .i64 1)), none⟩
    (.first true ⟨some 65, .mv (.tmp 9), none⟩
    (.first true ⟨some 66, .idxA 8 1 (.tmp 6) (.const (.int .i64 2)), none⟩
    (.first true ⟨some 70, .idxA 8 1 (.tmp 6) (.const (.int .i64 1)), none⟩
    (.first true ⟨some 72, .idxA 8 1 (.tmp 6) (.const (.int .i64 2)), none⟩
    (.first false ⟨some 63, .ld (.int .u32) (.tmp 62), none⟩
    (.first true ⟨some 64, .bin .and (.tmp 61) (.tmp 63), none⟩
    (.first false ⟨some 67, .ld (.int .u32) (.tmp 66), none⟩
    (.first true ⟨some 68, .bin .and (.tmp 65) (.tmp 67), none⟩
    (.first true ⟨some 69, .bin .xor (.tmp 64) (.tmp 68), none⟩
    (.first false ⟨some 71, .ld (.int .u32) (.tmp 70), none⟩
    (.first false ⟨some 73, .ld (.int .u32) (.tmp 72), none⟩
    (.first true ⟨some 74, .bin .and (.tmp 71) (.tmp 73), none⟩
    (.first true ⟨some 75, .bin .xor (.tmp 69) (.tmp 74), none⟩
    (.one true ⟨some 54, .call 34 [(.tmp 53), (.const (.int .i64 (-2)))], none⟩
    (.one true ⟨some 56, .call 34 [(.tmp 55), (.const (.int .i64 (-13)))], none⟩
    (.first true ⟨some 57, .bin .xor (.tmp 54) (.tmp 56), none⟩
    (.one true ⟨some 59, .call 34 [(.tmp 58), (.const (.int .i64 (-22)))], none⟩
    (.first true ⟨some 60, .bin .xor (.tmp 57) (.tmp 59), none⟩
    (.first true ⟨some 76, .bin .add (.tmp 60) (.tmp 75), none⟩
    (.first true ⟨some 11, .mv (.tmp 76), none⟩
    .nil))))))))))))))))))))))))) [16, 11, 10, 6, 5, 4, 2])
    (.reg [⟨some 77, .mv (.tmp 10), none⟩,
        ⟨some 78, .mv (.tmp 11), none⟩,
        ⟨some 79, .bin .add (.tmp 77) (.tmp 78), none⟩,
        ⟨some 80, .idxA 8 1 (.tmp 6) (.const (.int .i64 0)), none⟩,
        ⟨some 81, .ld (.int .u32) (.tmp 80), none⟩,
        ⟨some 82, .idxA 8 1 (.tmp 6) (.const (.int .i64 1)), none⟩,
        ⟨some 83, .ld (.int .u32) (.tmp 82), none⟩,
        ⟨some 84, .idxA 8 1 (.tmp 6) (.const (.int .i64 2)), none⟩,
        ⟨some 85, .ld (.int .u32) (.tmp 84), none⟩,
        ⟨some 86, .idxA 8 1 (.tmp 6) (.const (.int .i64 3)), none⟩,
        ⟨some 87, .ld (.int .u32) (.tmp 86), none⟩,
        ⟨some 88, .mv (.tmp 10), none⟩,
        ⟨some 89, .bin .add (.tmp 87) (.tmp 88), none⟩,
        ⟨some 90, .idxA 8 1 (.tmp 6) (.const (.int .i64 4)), none⟩,
        ⟨some 91, .ld (.int .u32) (.tmp 90), none⟩,
        ⟨some 92, .idxA 8 1 (.tmp 6) (.const (.int .i64 5)), none⟩,
        ⟨some 93, .ld (.int .u32) (.tmp 92), none⟩,
        ⟨some 94, .idxA 8 1 (.tmp 6) (.const (.int .i64 6)), none⟩,
        ⟨some 95, .ld (.int .u32) (.tmp 94), none⟩,
        ⟨some 96, .build (Array.replicate 8 (.int .u32 0)) [(0, 1, (.tmp 79)), (1, 1, (.tmp 81)), (2, 1, (.tmp 83)), (3, 1, (.tmp 85)), (4, 1, (.tmp 89)), (5, 1, (.tmp 91)), (6, 1, (.tmp 93)), (7, 1, (.tmp 95))], none⟩,
        ⟨none, .stN 8 (.tmp 6) (.tmp 96), none⟩] [16, 6, 5, 4, 2]))))))
  (.reg [⟨some 97, .bin .add (.tmp 16) (.const (.int .i64 1)), none⟩,
      ⟨some 16, .mv (.tmp 97), none⟩] [16, 6, 5, 4, 2]))))
def sha_mix.ic : ICode :=
  (.seq (.reg [⟨some 2, .box 46 (.tmp 0), none⟩,
      ⟨some 4, .alloc 46 (.agg (Array.replicate 8 (.int .u32 0))), none⟩] [4, 2, 1])
  (.seq (.regD (.first true ⟨some 13, .mv (.tmp 1), none⟩
    (.first false ⟨some 15, .ldN 8 (.tmp 2), none⟩
    (.br true ⟨some 14, .call 33 [(.tmp 13)], none⟩
    (.br true ⟨some 5, .alloc 68 (.agg (Array.replicate 64 (.int .u32 0))), none⟩
    (.one true ⟨some 6, .alloc 46 (.agg (Array.replicate 8 (.int .u32 0))), none⟩
    (.one true ⟨none, .stN 64 (.tmp 5) (.tmp 14), none⟩
    (.one false ⟨none, .stN 8 (.tmp 6) (.tmp 15), none⟩
    .nil)))
    (.br true ⟨some 6, .alloc 46 (.agg (Array.replicate 8 (.int .u32 0))), none⟩
    (.one true ⟨some 5, .alloc 68 (.agg (Array.replicate 64 (.int .u32 0))), none⟩
    (.one true ⟨none, .stN 64 (.tmp 5) (.tmp 14), none⟩
    (.one false ⟨none, .stN 8 (.tmp 6) (.tmp 15), none⟩
    .nil)))
    .stop))
    (.br true ⟨some 5, .alloc 68 (.agg (Array.replicate 64 (.int .u32 0))), none⟩
    (.br true ⟨some 14, .call 33 [(.tmp 13)], none⟩
    (.one true ⟨some 6, .alloc 46 (.agg (Array.replicate 8 (.int .u32 0))), none⟩
    (.one true ⟨none, .stN 64 (.tmp 5) (.tmp 14), none⟩
    (.one false ⟨none, .stN 8 (.tmp 6) (.tmp 15), none⟩
    .nil)))
    (.br true ⟨some 6, .alloc 46 (.agg (Array.replicate 8 (.int .u32 0))), none⟩
    (.one true ⟨some 14, .call 33 [(.tmp 13)], none⟩
    (.one true ⟨none, .stN 64 (.tmp 5) (.tmp 14), none⟩
    (.one false ⟨none, .stN 8 (.tmp 6) (.tmp 15), none⟩
    .nil)))
    .stop))
    (.br true ⟨some 6, .alloc 46 (.agg (Array.replicate 8 (.int .u32 0))), none⟩
    (.br true ⟨some 14, .call 33 [(.tmp 13)], none⟩
    (.one true ⟨some 5, .alloc 68 (.agg (Array.replicate 64 (.int .u32 0))), none⟩
    (.one true ⟨none, .stN 64 (.tmp 5) (.tmp 14), none⟩
    (.one false ⟨none, .stN 8 (.tmp 6) (.tmp 15), none⟩
    .nil)))
    (.br true ⟨some 5, .alloc 68 (.agg (Array.replicate 64 (.int .u32 0))), none⟩
    (.one true ⟨some 14, .call 33 [(.tmp 13)], none⟩
    (.one true ⟨none, .stN 64 (.tmp 5) (.tmp 14), none⟩
    (.one false ⟨none, .stN 8 (.tmp 6) (.tmp 15), none⟩
    .nil)))
    .stop))
    .stop))))) [6, 5, 4, 2])
  (.seq (.seq (.reg [⟨some 16, .mv (.const (.int .i64 0)), none⟩] [16, 6, 5, 4, 2])
  (.block 0 (.loop sha_mix.body0)))
  (.seq (.seq (.reg [⟨some 98, .mv (.const (.int .i64 0)), none⟩] [98, 6, 4, 2])
  (.block 2 (.loop sha_mix.body1)))
  (.seq (.reg [⟨some 110, .ldN 8 (.tmp 6), none⟩,
      ⟨none, .stN 8 (.tmp 4) (.tmp 110), none⟩] [4])
  .ret)))))
def sha_mix.hints : List Hint := [⟨[4, 2, 1], .nil, default⟩, ⟨[6, 5, 4, 2], (.first true 0 28 (.first false 2 59 (.br true 1 (.br true 3 (.one true 4 (.one true 5 (.one false 6 .nil))) (.br true 4 (.one true 3 (.one true 5 (.one false 6 .nil))) .stop)) (.br true 3 (.br true 1 (.one true 4 (.one true 5 (.one false 6 .nil))) (.br true 4 (.one true 1 (.one true 5 (.one false 6 .nil))) .stop)) (.br true 4 (.br true 1 (.one true 3 (.one true 5 (.one false 6 .nil))) (.br true 3 (.one true 1 (.one true 5 (.one false 6 .nil))) .stop)) .stop))))), ⟨[0, 1, 0, 0, 0, 27, 63], [8192, 16384, 32768, 32, 64, 0, 0], [2, 8192, 4, 0, 0, 16416, 32832], 5, 4⟩⟩, ⟨[16, 6, 5, 4, 2], .nil, default⟩, ⟨[17, 16, 6, 5, 4, 2], .nil, default⟩, ⟨[16, 6, 5, 4, 2], .nil, default⟩, ⟨[6, 4, 2], .nil, default⟩, ⟨[16, 7, 6, 5, 4, 2], .nil, default⟩, ⟨[16, 9, 8, 7, 6, 5, 4, 2], (.first true 0 12 (.first true 2 19 (.first false 1 13 (.first true 4 15 (.first false 3 23 (.first true 5 31 .nil)))))), ⟨[0, 1, 0, 4, 3, 31], [524288, 1048576, 2097152, 4194304, 256, 512], [64, 524288, 64, 2097152, 1048576, 4194304], 63, 10⟩⟩, ⟨[16, 10, 9, 6, 5, 4, 2], (.first true 0 501218300 (.first true 2 501217427 (.first true 4 501217423 (.first true 7 501217407 (.first true 11 500152319 (.first true 12 500142079 (.first true 15 499548159 (.first true 16 499580927 (.first true 17 499253247 (.first true 22 473956351 (.first true 23 478150655 (.first true 26 67108863 (.first true 27 134217727 (.first false 1 501218301 (.first false 13 500146175 (.first true 14 500154367 (.first false 18 499384319 (.first true 19 499646463 (.first true 20 500170751 (.first false 24 486539263 (.first false 28 268435455 (.one true 3 (.one true 5 (.first true 6 501217727 (.one true 8 (.first true 9 501217791 (.first true 10 501218303 (.first true 21 501219327 (.first true 25 503316479 (.first true 29 536870911 (.first true 30 1073741823 .nil))))))))))))))))))))))))))))))), ⟨[0, 1, 0, 4, 0, 24, 40, 0, 160, 320, 514, 0, 0, 4096, 10240, 0, 32768, 0, 131072, 327680, 540672, 1049600, 0, 4194304, 8388608, 18874368, 0, 67108864, 134217728, 301989888, 1073741823], [8388608, 16777216, 33554432, 67108864, 134217728, 268435456, 536870912, 1073741824, 2147483648, 4294967296, 8589934592, 17179869184, 34359738368, 68719476736, 137438953472, 274877906944, 549755813888, 1099511627776, 2199023255552, 4398046511104, 8796093022208, 17592186044416, 35184372088832, 70368744177664, 140737488355328, 281474976710656, 562949953421312, 1125899906842624, 2251799813685248, 4503599627370496, 1024], [64, 8388608, 256, 33554432, 256, 134217728, 335544320, 256, 1073741824, 2684354560, 4311744512, 256, 64, 34359738368, 85899345920, 256, 274877906944, 64, 1099511627776, 2748779069440, 4535485464576, 8804682956800, 128, 35184372088832, 70368744177664, 158329674399744, 128, 562949953421344, 1125899906842624, 2533274790395904, 4503599627370496], 2147483351, 285483010⟩⟩, ⟨[16, 11, 10, 6, 5, 4, 2], (.first true 0 8388388 (.first true 2 8388387 (.first true 5 8388383 (.first true 8 4126463 (.first true 9 4125183 (.first true 12 4091903 (.first true 13 4071423 (.first true 17 1703935 (.first true 19 524287 (.first false 10 4125695 (.first true 11 4126719 (.first false 14 4079615 (.first true 15 4095999 (.first true 16 4128767 (.first false 18 1835007 (.first false 20 1048575 (.first true 21 2097151 (.first true 22 4194303 (.one true 1 (.one true 3 (.first true 4 8388463 (.one true 6 (.first true 7 8388479 (.first true 23 8388607 (.first true 24 16777215 .nil))))))))))))))))))))))))), ⟨[0, 1, 0, 6, 10, 0, 40, 80, 0, 0, 512, 1280, 0, 0, 8192, 20480, 34816, 0, 131072, 0, 524288, 1310720, 2162688, 4194432, 16777215], [9007199254740992, 18014398509481984, 36028797018963968, 72057594037927936, 144115188075855872, 288230376151711744, 576460752303423488, 1152921504606846976, 2305843009213693952, 4611686018427387904, 9223372036854775808, 18446744073709551616, 36893488147419103232, 73786976294838206464, 147573952589676412928, 295147905179352825856, 590295810358705651712, 1180591620717411303424, 2361183241434822606848, 4722366482869645213696, 9444732965739290427392, 18889465931478580854784, 37778931862957161709568, 75557863725914323419136, 2048], [512, 9007199254740992, 512, 36028797018963968, 90071992547409920, 512, 288230376151711744, 720575940379279360, 512, 64, 4611686018427387904, 11529215046068469760, 512, 64, 73786976294838206464, 184467440737095516160, 313594649253062377472, 64, 1180591620717411303424, 64, 4722366482869645213696, 11805916207174113034240, 19479761741837286506496, 37780084784461768556544, 75557863725914323419136], 33554357, 1328128⟩⟩, ⟨[16, 6, 5, 4, 2], .nil, default⟩, ⟨[16, 6, 5, 4, 2], .nil, default⟩, ⟨[98, 6, 4, 2], .nil, default⟩, ⟨[99, 98, 6, 4, 2], .nil, default⟩, ⟨[98, 6, 4, 2], .nil, default⟩, ⟨[6, 4], .nil, default⟩, ⟨[98, 12, 6, 4, 2], .nil, default⟩, ⟨[98, 6, 4, 2], (.first true 0 56 (.first true 1 57 (.first true 3 7 (.first true 4 15 (.first false 2 59 (.first false 5 31 (.first true 6 63 (.first true 7 127 (.one false 8 .nil))))))))), ⟨[0, 1, 2, 0, 8, 16, 36, 127, 255], [2535301200456458802993406410752, 5070602400912917605986812821504, 10141204801825835211973625643008, 20282409603651670423947251286016, 40564819207303340847894502572032, 81129638414606681695789005144064, 162259276829213363391578010288128, 324518553658426726783156020576256, 0], [4096, 2535301200456458802993406410816, 5070602400912917605986812821504, 4096, 20282409603651670423947251286020, 40564819207303340847894502572032, 91270843216432516907762630787072, 2535301200456458802993406410816, 486777830487640090174734030864384], 255, 36⟩⟩, ⟨[98, 6, 4, 2], .nil, default⟩, ⟨[4], .nil, default⟩]
theorem sha_mix.comp : ∃ c, Tryd.f28.body = some c ∧ comp PP 111 c sha_mix.hints = some (sha_mix.ic, []) := ⟨_, rfl, by kernel_rfl⟩
theorem sha_mix.res : compRess PP Tryd.f28.results.toList = some [.ldN 8 (.tmp 4)] := by kernel_rfl
theorem sha_mix.start {args : List Value} {w : World} {R : Value → World → Prop} (ha : args.length ≤ 111)
    (h : IW PP sha_mix.ic [] (argEnv args 0) w (RQ PP [.ldN 8 (.tmp 4)] R)) : Ret PP sha_mix.id args.toArray w R := by
  obtain ⟨c, hb, hc⟩ := sha_mix.comp
  exact ret_iw Tryd.func28 hb rfl hc sha_mix.res ha h

/- 29: slots: 0 v, 1 n, 2 v, 3 n, 5 b, 6 i
  loop: 0 v, 5 b, 12 , 13  -/
abbrev word_Bytes.id : FuncId := 29
def word_Bytes.body0 : ICode :=
  (.seq (.reg [⟨some 14, .bin .lss (.tmp 13) (.tmp 12), none⟩] [14, 13, 12, 5, 0])
  (.seq (.cond (.tmp 14) [13, 12, 5, 0] [5]
    .skip
    (.exit 0))
  (.seq (.block 1 (.seq (.reg [⟨some 15, .mv (.tmp 13), none⟩,
        ⟨some 6, .mv (.tmp 15), none⟩] [13, 12, 6, 5, 0])
    (.reg [⟨some 16, .mv (.tmp 5), none⟩,
        ⟨some 17, .mv (.tmp 6), none⟩,
        ⟨some 18, .mv (.tmp 0), none⟩,
        ⟨some 19, .mv (.tmp 6), none⟩,
        ⟨some 20, .bin .mul (.const (.int .i64 8)) (.tmp 19), none⟩,
        ⟨some 21, .bin .shr (.tmp 18) (.tmp 20), none⟩,
        ⟨some 22, .cvInt .u8 (.tmp 21), none⟩,
        ⟨some 23, .idxL 1 (.tmp 16) (.tmp 17), none⟩,
        ⟨none, .st (.tmp 23) (.tmp 22), none⟩] [13, 12, 5, 0])))
  (.reg [⟨some 24, .bin .add (.tmp 13) (.const (.int .i64 1)), none⟩,
      ⟨some 13, .mv (.tmp 24), none⟩] [13, 12, 5, 0]))))
def word_Bytes.ic : ICode :=
  (.seq (.reg [⟨some 4, .mv (.const (.string { data := #[] })), none⟩] [1, 0])
  (.seq (.reg [⟨some 7, .mv (.tmp 1), none⟩,
      ⟨some 8, .maxI (.tmp 7) (.const (.int .i64 0)), none⟩,
      ⟨some 9, .minI (.tmp 8) (.const (.int .i64 8)), none⟩,
      ⟨some 10, .mkSl 5 1 1 #[.int .u8 0] (.tmp 9) (.tmp 9), none⟩,
      ⟨some 5, .mv (.tmp 10), none⟩] [5, 0])
  (.seq (.seq (.reg [⟨some 11, .mv (.tmp 5), none⟩,
      ⟨some 12, .lenL (.tmp 11), none⟩,
      ⟨some 13, .mv (.const (.int .i64 0)), none⟩] [13, 12, 5, 0])
  (.block 0 (.loop word_Bytes.body0)))
  (.seq (.reg [⟨some 25, .mv (.tmp 5), none⟩,
      ⟨some 26, .cvStr (.tmp 25), none⟩,
      ⟨some 4, .mv (.tmp 26), none⟩] [4])
  .ret))))
def word_Bytes.hints : List Hint := [⟨[1, 0], .nil, default⟩, ⟨[5, 0], .nil, default⟩, ⟨[13, 12, 5, 0], .nil, default⟩, ⟨[14, 13, 12, 5, 0], .nil, default⟩, ⟨[13, 12, 5, 0], .nil, default⟩, ⟨[5], .nil, default⟩, ⟨[13, 12, 6, 5, 0], .nil, default⟩, ⟨[13, 12, 5, 0], .nil, default⟩, ⟨[13, 12, 5, 0], .nil, default⟩, ⟨[4], .nil, default⟩]
theorem word_Bytes.comp : ∃ c, Tryd.f29.body = some c ∧ comp PP 27 c word_Bytes.hints = some (word_Bytes.ic, []) := ⟨_, rfl, by kernel_rfl⟩
theorem word_Bytes.res : compRess PP Tryd.f29.results.toList = some [.mv (.tmp 4)] := by kernel_rfl
theorem word_Bytes.start {args : List Value} {w : World} {R : Value → World → Prop} (ha : args.length ≤ 27)
    (h : IW PP word_Bytes.ic [] (argEnv args 0) w (RQ PP [.mv (.tmp 4)] R)) : Ret PP word_Bytes.id args.toArray w R := by
  obtain ⟨c, hb, hc⟩ := word_Bytes.comp
  exact ret_iw Tryd.func29 hb rfl hc word_Bytes.res ha h

/- 30: slots: 0 v, 1 v -/
abbrev word_Swap.id : FuncId := 30
def word_Swap.ic : ICode :=
  (.seq (.reg [⟨some 2, .mv (.const (.int .u64 0)), none⟩] [0])
  (.seq (.reg [⟨some 3, .mv (.tmp 0), none⟩,
      ⟨some 4, .shrC 8 (.tmp 3), none⟩,
      ⟨some 5, .bin .and (.tmp 4) (.const (.int .u64 71777214294589695)), none⟩,
      ⟨some 6, .mv (.tmp 0), none⟩,
      ⟨some 7, .bin .and (.tmp 6) (.const (.int .u64 71777214294589695)), none⟩,
      ⟨some 8, .shlC 8 (.tmp 7), none⟩,
      ⟨some 9, .bin .or (.tmp 5) (.tmp 8), none⟩,
      ⟨some 0, .mv (.tmp 9), none⟩] [0])
  (.seq (.reg [⟨some 10, .mv (.tmp 0), none⟩,
      ⟨some 11, .shrC 16 (.tmp 10), none⟩,
      ⟨some 12, .bin .and (.tmp 11) (.const (.int .u64 281470681808895)), none⟩,
      ⟨some 13, .mv (.tmp 0), none⟩,
      ⟨some 14, .bin .and (.tmp 13) (.const (.int .u64 281470681808895)), none⟩,
      ⟨some 15, .shlC 16 (.tmp 14), none⟩,
      ⟨some 16, .bin .or (.tmp 12) (.tmp 15), none⟩,
      ⟨some 0, .mv (.tmp 16), none⟩] [0])
  (.seq (.reg [⟨some 17, .mv (.tmp 0), none⟩,
      ⟨some 18, .shrC 32 (.tmp 17), none⟩,
      ⟨some 19, .mv (.tmp 0), none⟩,
      ⟨some 20, .shlC 32 (.tmp 19), none⟩,
      ⟨some 21, .bin .or (.tmp 18) (.tmp 20), none⟩,
      ⟨some 2, .mv (.tmp 21), none⟩] [2])
  .ret))))
def word_Swap.hints : List Hint := [⟨[0], .nil, default⟩, ⟨[0], .nil, default⟩, ⟨[0], .nil, default⟩, ⟨[2], .nil, default⟩]
theorem word_Swap.comp : ∃ c, Tryd.f30.body = some c ∧ comp PP 22 c word_Swap.hints = some (word_Swap.ic, []) := ⟨_, rfl, by kernel_rfl⟩
theorem word_Swap.res : compRess PP Tryd.f30.results.toList = some [.mv (.tmp 2)] := by kernel_rfl
theorem word_Swap.start {args : List Value} {w : World} {R : Value → World → Prop} (ha : args.length ≤ 22)
    (h : IW PP word_Swap.ic [] (argEnv args 0) w (RQ PP [.mv (.tmp 2)] R)) : Ret PP word_Swap.id args.toArray w R := by
  obtain ⟨c, hb, hc⟩ := word_Swap.comp
  exact ret_iw Tryd.func30 hb rfl hc word_Swap.res ha h

/- 31: slots: 0 r, 1 e, 2 r, 3 e -/
abbrev pack_Reader_Fail.id : FuncId := 31
def pack_Reader_Fail.ic : ICode :=
  (.seq (.reg [⟨some 4, .mv (.tmp 0), none⟩,
      ⟨some 5, .nilck (.tmp 4), none⟩,
      ⟨some 6, .fldA 2 (.tmp 5), none⟩,
      ⟨some 7, .ld (.int .i64) (.tmp 6), none⟩,
      ⟨some 8, .bin .eql (.tmp 7) (.const (.int .i64 0)), none⟩] [8, 1, 0])
  (.cond (.tmp 8) [1, 0] []
    (.reg [⟨some 9, .mv (.tmp 0), none⟩,
        ⟨some 10, .mv (.tmp 1), none⟩,
        ⟨some 11, .nilck (.tmp 9), none⟩,
        ⟨some 12, .fldA 2 (.tmp 11), none⟩,
        ⟨none, .st (.tmp 12) (.tmp 10), none⟩] [])
    .skip))
def pack_Reader_Fail.hints : List Hint := [⟨[8, 1, 0], .nil, default⟩, ⟨[1, 0], .nil, default⟩, ⟨[], .nil, default⟩, ⟨[], .nil, default⟩]
theorem pack_Reader_Fail.comp : ∃ c, Tryd.f31.body = some c ∧ comp PP 13 c pack_Reader_Fail.hints = some (pack_Reader_Fail.ic, []) := ⟨_, rfl, by kernel_rfl⟩
theorem pack_Reader_Fail.res : compRess PP Tryd.f31.results.toList = some [] := by kernel_rfl
theorem pack_Reader_Fail.start {args : List Value} {w : World} {R : Value → World → Prop} (ha : args.length ≤ 13)
    (h : IW PP pack_Reader_Fail.ic [] (argEnv args 0) w (RQ PP [] R)) : Ret PP pack_Reader_Fail.id args.toArray w R := by
  obtain ⟨c, hb, hc⟩ := pack_Reader_Fail.comp
  exact ret_iw Tryd.func31 hb rfl hc pack_Reader_Fail.res ha h

/- 32: slots: 0 v, 1 v, 3 n
  loop: 0 v, 3 n -/
abbrev word_Count.id : FuncId := 32
def word_Count.body0 : ICode :=
  (.seq (.seq (.reg [⟨some 4, .mv (.tmp 0), none⟩,
      ⟨some 5, .bin .neq (.tmp 4) (.const (.int .u64 0)), none⟩] [5, 3, 0])
  (.cond (.tmp 5) [3, 0] [3]
    .skip
    (.exit 0)))
  (.seq (.block 1 (.reg [⟨some 10, .mv (.tmp 3), none⟩,
        ⟨some 11, .bin .add (.tmp 10) (.const (.int .i64 1)), none⟩,
        ⟨some 3, .mv (.tmp 11), none⟩] [3, 0]))
  (.reg [⟨some 6, .mv (.tmp 0), none⟩,
      ⟨some 7, .mv (.tmp 0), none⟩,
      ⟨some 8, .bin .sub (.tmp 7) (.const (.int .u64 1)), none⟩,
      ⟨some 9, .bin .and (.tmp 6) (.tmp 8), none⟩,
      ⟨some 0, .mv (.tmp 9), none⟩] [3, 0])))
def word_Count.ic : ICode :=
  (.seq (.reg [⟨some 2, .mv (.const (.int .i64 0)), none⟩] [0])
  (.seq (.reg [⟨some 3, .mv (.const (.int .i64 0)), none⟩] [3, 0])
  (.seq (.block 0 (.loop word_Count.body0))
  (.seq (.reg [⟨some 12, .mv (.tmp 3), none⟩,
      ⟨some 2, .mv (.tmp 12), none⟩] [2])
  .ret))))
def word_Count.hints : List Hint := [⟨[0], .nil, default⟩, ⟨[3, 0], .nil, default⟩, ⟨[5, 3, 0], .nil, default⟩, ⟨[3, 0], .nil, default⟩, ⟨[3], .nil, default⟩, ⟨[3, 0], .nil, default⟩, ⟨[3, 0], .nil, default⟩, ⟨[2], .nil, default⟩]
theorem word_Count.comp : ∃ c, Tryd.f32.body = some c ∧ comp PP 13 c word_Count.hints = some (word_Count.ic, []) := ⟨_, rfl, by kernel_rfl⟩
theorem word_Count.res : compRess PP Tryd.f32.results.toList = some [.mv (.tmp 2)] := by kernel_rfl
theorem word_Count.start {args : List Value} {w : World} {R : Value → World → Prop} (ha : args.length ≤ 13)
    (h : IW PP word_Count.ic [] (argEnv args 0) w (RQ PP [.mv (.tmp 2)] R)) : Ret PP word_Count.id args.toArray w R := by
  obtain ⟨c, hb, hc⟩ := word_Count.comp
  exact ret_iw Tryd.func32 hb rfl hc word_Count.res ha h

/- 33: slots: 0 b, 1 b, 3 w, 4 i, 5 i, 6 x, 7 y, 8 s, 9 t
  loop: 0 b, 2 , 3 w, 10 
  loop: 2 , 3 w, 5 i -/
abbrev sha_schedule.id : FuncId := 33
def sha_schedule.body1 : ICode :=
  (.seq (.seq (.reg [⟨some 49, .mv (.tmp 5), none⟩,
      ⟨some 50, .bin .lss (.tmp 49) (.const (.int .i64 64)), none⟩] [50, 5, 3, 2])
  (.cond (.tmp 50) [5, 3, 2] [3, 2]
    .skip
    (.exit 2)))
  (.seq (.block 3 (.seq (.regD (.first true ⟨some 53, .mv (.tmp 5), none⟩
    (.first true ⟨some 54, .bin .sub (.tmp 53) (.const (.int .i64 15)), none⟩
    (.first true ⟨some 55, .idxA 64 1 (.tmp 3) (.tmp 54), none⟩
    (.first true ⟨some 57, .mv (.tmp 5), none⟩
    (.first true ⟨some 58, .bin .sub (.tmp 57) (.const (.int .i64 2)), none⟩
    (.first true ⟨some 59, .idxA 64 1 (.tmp 3) (.tmp 58), none⟩
    (.first false ⟨some 56, .ld (.int .u32) (.tmp 55), none⟩
    (.first true ⟨some 6, .mv (.tmp 56), none⟩
    (.first false ⟨some 60, .ld (.int .u32) (.tmp 59), none⟩
    (.first true ⟨some 7, .mv (.tmp 60), none⟩
    .nil)))))))))) [7, 6, 5, 3, 2])
    (.seq (.reg [⟨some 61, .mv (.tmp 6), none⟩,
        ⟨some 62, .call 34 [(.tmp 61), (.const (.int .i64 (-7)))], none⟩,
        ⟨some 63, .mv (.tmp 6), none⟩,
        ⟨some 64, .call 34 [(.tmp 63), (.const (.int .i64 (-18)))], none⟩,
        ⟨some 65, .bin .xor (.tmp 62) (.tmp 64), none⟩,
        ⟨some 66, .mv (.tmp 6), none⟩,
        ⟨some 67, .shrC 3 (.tmp 66), none⟩,
        ⟨some 68, .bin .xor (.tmp 65) (.tmp 67), none⟩,
        ⟨some 8, .mv (.tmp 68), none⟩] [8, 7, 5, 3, 2])
    (.seq (.reg [⟨some 69, .mv (.tmp 7), none⟩,
        ⟨some 70, .call 34 [(.tmp 69), (.const (.int .i64 (-17)))], none⟩,
        ⟨some 71, .mv (.tmp 7), none⟩,
        ⟨some 72, .call 34 [(.tmp 71), (.const (.int .i64 (-19)))], none⟩,
        ⟨some 73, .bin .xor (.tmp 70) (.tmp 72), none⟩,
        ⟨some 74, .mv (.tmp 7), none⟩,
        ⟨some 75, .shrC 10 (.tmp 74), none⟩,
        ⟨some 76, .bin .xor (.tmp 73) (.tmp 75), none⟩,
        ⟨some 9, .mv (.tmp 76), none⟩] [9, 8, 5, 3, 2])
    (.regD (.first true ⟨some 77, .mv (.tmp 5), none⟩
    (.first true ⟨some 78, .mv (.tmp 5), none⟩
    (.first true ⟨some 79, .bin .sub (.tmp 78) (.const (.int .i64 16)), none⟩
    (.first true ⟨some 80, .idxA 64 1 (.tmp 3) (.tmp 79), none⟩
    (.first true ⟨some 82, .mv (.tmp 8), none⟩
    (.first true ⟨some 84, .mv (.tmp 5), none⟩
    (.first true ⟨some 85, .bin .sub (.tmp 84) (.const (.int .i64 7)), none⟩
    (.first true ⟨some 86, .idxA 64 1 (.tmp 3) (.tmp 85), none⟩
    (.first true ⟨some 89, .mv (.tmp 9), none⟩
    (.first false ⟨some 81, .ld (.int .u32) (.tmp 80), none⟩
    (.first true ⟨some 83, .bin .add (.tmp 81) (.tmp 82), none⟩
    (.first false ⟨some 87, .ld (.int .u32) (.tmp 86), none⟩
    (.first true ⟨some 88, .bin .add (.tmp 83) (.tmp 87), none⟩
    (.first true ⟨some 90, .bin .add (.tmp 88) (.tmp 89), none⟩
    (.first true ⟨some 91, .idxA 64 1 (.tmp 3) (.tmp 77), none⟩
    (.one false ⟨none, .st (.tmp 91) (.tmp 90), none⟩
    .nil)))))))))))))))) [5, 3, 2])))))
  (.reg [⟨some 51, .mv (.tmp 5), none⟩,
      ⟨some 52, .bin .add (.tmp 51) (.const (.int .i64 1)), none⟩,
      ⟨some 5, .mv (.tmp 52), none⟩] [5, 3, 2])))
def sha_schedule.body0 : ICode :=
  (.seq (.reg [⟨some 11, .bin .lss (.tmp 10) (.const (.int .i64 16)), none⟩] [11, 10, 3, 2, 0])
  (.seq (.cond (.tmp 11) [10, 3, 2, 0] [3, 2]
    .skip
    (.exit 0))
  (.seq (.block 1 (.seq (.reg [⟨some 12, .mv (.tmp 10), none⟩,
        ⟨some 4, .mv (.tmp 12), none⟩] [10, 4, 3, 2, 0])
    (.regD (.first true ⟨some 13, .mv (.tmp 4), none⟩
    (.first true ⟨some 14, .mv (.tmp 0), none⟩
    (.first true ⟨some 15, .mv (.tmp 4), none⟩
    (.first true ⟨some 16, .bin .mul (.const (.int .i64 4)) (.tmp 15), none⟩
    (.first true ⟨some 17, .idxL 1 (.tmp 14) (.tmp 16), none⟩
    (.first true ⟨some 21, .mv (.tmp 0), none⟩
    (.first true ⟨some 22, .mv (.tmp 4), none⟩
    (.first true ⟨some 23, .bin .mul (.const (.int .i64 4)) (.tmp 22), none⟩
    (.first true ⟨some 24, .bin .add (.tmp 23) (.const (.int .i64 1)), none⟩
    (.first true ⟨some 25, .idxL 1 (.tmp 21) (.tmp 24), none⟩
    (.first true ⟨some 30, .mv (.tmp 0), none⟩
    (.first true ⟨some 31, .mv (.tmp 4), none⟩
    (.first true ⟨some 32, .bin .mul (.const (.int .i64 4)) (.tmp 31), none⟩
    (.first true ⟨some 33, .bin .add (.tmp 32) (.const (.int .i64 2)), none⟩
    (.first true ⟨some 34, .idxL 1 (.tmp 30) (.tmp 33), none⟩
    (.first true ⟨some 39, .mv (.tmp 0), none⟩
    (.first true ⟨some 40, .mv (.tmp 4), none⟩
    (.first true ⟨some 41, .bin .mul (.const (.int .i64 4)) (.tmp 40), none⟩
    (.first true ⟨some 42, .bin .add (.tmp 41) (.const (.int .i64 3)), none⟩
    (.first true ⟨some 43, .idxL 1 (.tmp 39) (.tmp 42), none⟩
    (.first false ⟨some 18, .ld (.int .u8) (.tmp 17), none⟩
    (.first true ⟨some 19, .cvInt .u32 (.tmp 18), none⟩
    (.first true ⟨some 20, .shlC 24 (.tmp 19), none⟩
    (.first false ⟨some 26, .ld (.int .u8) (.tmp 25), none⟩
    (.first true ⟨some 27, .cvInt .u32 (.tmp 26), none⟩
    (.first true ⟨some 28, .shlC 16 (.tmp 27), none⟩
    (.first true ⟨some 29, .bin .or (.tmp 20) (.tmp 28), none⟩
    (.first false ⟨some 35, .ld (.int .u8) (.tmp 34), none⟩
    (.first true ⟨some 36, .cvInt .u32 (.tmp 35), none⟩
    (.first true ⟨some 37, .shlC 8 (.tmp 36), none⟩
    (.first true ⟨some 38, .bin .or (.tmp 29) (.tmp 37), none⟩
    (.first false ⟨some 44, .ld (.int .u8) (.tmp 43), none⟩
    (.first true ⟨some 45, .cvInt .u32 (.tmp 44), none⟩
    (.first true ⟨some 46, .bin .or (.tmp 38) (.tmp 45), none⟩
    (.first true ⟨some 47, .idxA 64 1 (.tmp 3) (.tmp 13), none⟩
    (.one false ⟨none, .st (.tmp 47) (.tmp 46), none⟩
    .nil)))))))))))))))))))))))))))))))))))) [10, 3, 2, 0])))
  (.reg [⟨some 48, .bin .add (.tmp 10) (.const (.int .i64 1)), none⟩,
      ⟨some 10, .mv (.tmp 48), none⟩] [10, 3, 2, 0]))))
def sha_schedule.ic : ICode :=
  (.seq (.reg [⟨some 2, .alloc 68 (.agg (Array.replicate 64 (.int .u32 0))), none⟩] [2, 0])
  (.seq (.reg [⟨some 3, .alloc 68 (.agg (Array.replicate 64 (.int .u32 0))), none⟩] [3, 2, 0])
  (.seq (.seq (.reg [⟨some 10, .mv (.const (.int .i64 0)), none⟩] [10, 3, 2, 0])
  (.block 0 (.loop sha_schedule.body0)))
  (.seq (.seq (.reg [⟨some 5, .mv (.const (.int .i64 16)), none⟩] [5, 3, 2])
  (.block 2 (.loop sha_schedule.body1)))
  (.seq (.reg [⟨some 92, .ldN 64 (.tmp 3), none⟩,
      ⟨none, .stN 64 (.tmp 2) (.tmp 92), none⟩] [2])
  .ret)))))
def sha_schedule.hints : List Hint := [⟨[2, 0], .nil, default⟩, ⟨[3, 2, 0], .nil, default⟩, ⟨[10, 3, 2, 0], .nil, default⟩, ⟨[11, 10, 3, 2, 0], .nil, default⟩, ⟨[10, 3, 2, 0], .nil, default⟩, ⟨[3, 2], .nil, default⟩, ⟨[10, 4, 3, 2, 0], .nil, default⟩, ⟨[10, 3, 2, 0], (.first true 0 17179869182 (.first true 1 8556314381 (.first true 2 8556314371 (.first true 3 8556314375 (.first true 4 8556314383 (.first true 8 8556252927 (.first true 9 8556249599 (.first true 10 8556250111 (.first true 11 8556251135 (.first true 12 8556253183 (.first true 17 8524791807 (.first true 18 8523087871 (.first true 19 8523350015 (.first true 20 8523874303 (.first true 21 8524922879 (.first true 26 1006632959 (.first true 27 134217727 (.first true 28 268435455 (.first true 29 536870911 (.first true 30 1073741823 (.first false 5 8556314399 (.first true 6 8556314431 (.first true 7 8556314495 (.first false 13 8556257279 (.first true 14 8556265471 (.first true 15 8556281855 (.first true 16 8556314623 (.first false 22 8527020031 (.first true 23 8531214335 (.first true 24 8539602943 (.first true 25 8556380159 (.first false 31 2147483647 (.first true 32 4294967295 (.first true 33 8589934591 (.first true 34 17179869183 (.one false 35 .nil)))))))))))))))))))))))))))))))))))), ⟨[0, 0, 0, 4, 10, 16, 32, 64, 0, 0, 512, 1024, 2304, 4096, 8192, 16384, 32896, 0, 0, 262144, 524288, 1179648, 2097152, 4194304, 8388608, 16842752, 0, 0, 134217728, 268435456, 603979776, 1073741824, 2147483648, 4328521728, 17179869183, 34359738367], [8192, 16384, 32768, 65536, 131072, 262144, 524288, 1048576, 2097152, 4194304, 8388608, 16777216, 33554432, 67108864, 134217728, 268435456, 536870912, 1073741824, 2147483648, 4294967296, 8589934592, 17179869184, 34359738368, 68719476736, 137438953472, 274877906944, 549755813888, 1099511627776, 2199023255552, 4398046511104, 8796093022208, 17592186044416, 35184372088832, 70368744177664, 140737488355328, 0], [16, 1, 16, 32768, 81920, 131072, 262144, 524288, 1, 16, 4194304, 8388608, 18874368, 33554432, 67108864, 134217728, 269484032, 1, 16, 2147483648, 4294967296, 9663676416, 17179869184, 34359738368, 68719476736, 137975824384, 1, 16, 1099511627776, 2199023255552, 4947802324992, 8796093022208, 17592186044416, 35459249995776, 8200, 211106232532992], 34359738367, 2151686176⟩⟩, ⟨[10, 3, 2, 0], .nil, default⟩, ⟨[5, 3, 2], .nil, default⟩, ⟨[50, 5, 3, 2], .nil, default⟩, ⟨[5, 3, 2], .nil, default⟩, ⟨[3, 2], .nil, default⟩, ⟨[7, 6, 5, 3, 2], (.first true 0 240 (.first true 1 241 (.first true 2 243 (.first true 4 271 (.first true 5 287 (.first true 6 319 (.first false 3 247 (.first true 8 255 (.first false 7 383 (.first true 9 511 .nil)))))))))), ⟨[0, 1, 2, 4, 0, 16, 32, 64, 15, 511], [9007199254740992, 18014398509481984, 36028797018963968, 72057594037927936, 144115188075855872, 288230376151711744, 576460752303423488, 1152921504606846976, 64, 128], [32, 9007199254740992, 18014398509481992, 36028797018963968, 32, 144115188075855872, 288230376151711752, 576460752303423488, 72057594037927936, 1152921504606846976], 1023, 136⟩⟩, ⟨[8, 7, 5, 3, 2], .nil, default⟩, ⟨[9, 8, 5, 3, 2], .nil, default⟩, ⟨[5, 3, 2], (.first true 0 16382 (.first true 1 6049 (.first true 2 6051 (.first true 3 6055 (.first true 5 6047 (.first true 7 4223 (.first true 8 4351 (.first true 9 4607 (.first true 12 4095 (.first false 4 6063 (.first true 6 6079 (.first false 10 5119 (.first true 11 6143 (.first true 13 8191 (.first true 14 16383 (.one false 15 .nil)))))))))))))))), ⟨[0, 0, 2, 4, 8, 0, 48, 0, 128, 256, 512, 1088, 0, 6144, 16383, 32767], [151115727451828646838272, 302231454903657293676544, 604462909807314587353088, 1208925819614629174706176, 2417851639229258349412352, 4835703278458516698824704, 9671406556917033397649408, 19342813113834066795298816, 38685626227668133590597632, 77371252455336267181195264, 154742504910672534362390528, 309485009821345068724781056, 618970019642690137449562112, 1237940039285380274899124224, 2475880078570760549798248448, 0], [32, 32, 302231454903657293676544, 604462909807314587353096, 1208925819614629174706176, 256, 7253554917687775048237056, 32, 19342813113834066795298816, 38685626227668133590597640, 77371252455336267181195264, 164413911467589567760039936, 512, 928455029464035206174343168, 151115727451828646838280, 3713820117856140824697372672], 32767, 1040⟩⟩, ⟨[5, 3, 2], .nil, default⟩, ⟨[2], .nil, default⟩]
theorem sha_schedule.comp : ∃ c, Tryd.f33.body = some c ∧ comp PP 93 c sha_schedule.hints = some (sha_schedule.ic, []) := ⟨_, rfl, by kernel_rfl⟩
theorem sha_schedule.res : compRess PP Tryd.f33.results.toList = some [.ldN 64 (.tmp 2)] := by kernel_rfl
theorem sha_schedule.start {args : List Value} {w : World} {R : Value → World → Prop} (ha : args.length ≤ 93)
    (h : IW PP sha_schedule.ic [] (argEnv args 0) w (RQ PP [.ldN 64 (.tmp 2)] R)) : Ret PP sha_schedule.id args.toArray w R := by
  obtain ⟨c, hb, hc⟩ := sha_schedule.comp
  exact ret_iw Tryd.func33 hb rfl hc sha_schedule.res ha h

/- 34: slots: 0 v, 1 n, 2 v, 3 n, 5 k -/
abbrev word_Turn32.id : FuncId := 34
def word_Turn32.ic : ICode :=
  (.seq (.reg [⟨some 4, .mv (.const (.int .u32 0)), none⟩] [1, 0])
  (.seq (.reg [⟨some 6, .mv (.tmp 1), none⟩,
      ⟨some 7, .cvInt .u64 (.tmp 6), none⟩,
      ⟨some 8, .bin .and (.tmp 7) (.const (.int .u64 31)), none⟩,
      ⟨some 5, .mv (.tmp 8), none⟩] [5, 0])
  (.seq (.reg [⟨some 9, .mv (.tmp 0), none⟩,
      ⟨some 10, .mv (.tmp 5), none⟩,
      ⟨some 11, .bin .shl (.tmp 9) (.tmp 10), none⟩,
      ⟨some 12, .mv (.tmp 0), none⟩,
      ⟨some 13, .mv (.tmp 5), none⟩,
      ⟨some 14, .bin .sub (.const (.int .u64 32)) (.tmp 13), none⟩,
      ⟨some 15, .bin .shr (.tmp 12) (.tmp 14), none⟩,
      ⟨some 16, .bin .or (.tmp 11) (.tmp 15), none⟩,
      ⟨some 4, .mv (.tmp 16), none⟩] [4])
  .ret)))
def word_Turn32.hints : List Hint := [⟨[1, 0], .nil, default⟩, ⟨[5, 0], .nil, default⟩, ⟨[4], .nil, default⟩]
theorem word_Turn32.comp : ∃ c, Tryd.f34.body = some c ∧ comp PP 17 c word_Turn32.hints = some (word_Turn32.ic, []) := ⟨_, rfl, by kernel_rfl⟩
theorem word_Turn32.res : compRess PP Tryd.f34.results.toList = some [.mv (.tmp 4)] := by kernel_rfl
theorem word_Turn32.start {args : List Value} {w : World} {R : Value → World → Prop} (ha : args.length ≤ 17)
    (h : IW PP word_Turn32.ic [] (argEnv args 0) w (RQ PP [.mv (.tmp 4)] R)) : Ret PP word_Turn32.id args.toArray w R := by
  obtain ⟨c, hb, hc⟩ := word_Turn32.comp
  exact ret_iw Tryd.func34 hb rfl hc word_Turn32.res ha h

end G1
