/- What the functions of the program compute, in the interpreter. -/
import Derived.Test.YtbfochojhmggfaaGreatAiP4
import Derived.Test.YtbfochojhmggfaaGreatProg
set_option linter.unusedSimpArgs false
set_option linter.unusedVariables false
/- The tables of the program. -/
namespace Go.AI
open Go Go.Proofs
def ty : TypeId → TI
  | 1 => { sz := 1, bytes := 8, zero := [.undef] }
  | 2 => { sz := 1, ik := some .i64, bytes := 8, zero := [.int .i64 0] }
  | 3 => { sz := 1, ik := some .i64, bytes := 8, zero := [.int .i64 0] }
  | 4 => { sz := 1, bl := true, bytes := 1, zero := [.bool false] }
  | 5 => { sz := 1, ik := some .u8, bytes := 1, zero := [.int .u8 0] }
  | 6 => { sz := 1, ik := some .u8, bytes := 1, zero := [.int .u8 0] }
  | 7 => { sz := 4, agg := true, offs := [0, 1, 2, 3], fsz := [1, 1, 1, 1], fagg := [false, false, false, false], bytes := 24, zero := [.int .i64 0, .int .i64 0, .bool false, .int .u8 0] }
  | 8 => { sz := 4, agg := true, offs := [0, 1, 2, 3], fsz := [1, 1, 1, 1], fagg := [false, false, false, false], bytes := 24, zero := [.int .i64 0, .int .i64 0, .bool false, .int .u8 0] }
  | 9 => { sz := 1, st := true, bytes := 16, zero := [.str ByteArray.empty] }
  | 10 => { sz := 1, st := true, bytes := 16, zero := [.str ByteArray.empty] }
  | 11 => { sz := 1, st := true, bytes := 16, zero := [.str ByteArray.empty] }
  | 12 => { sz := 1, ik := some .u64, bytes := 8, zero := [.int .u64 0] }
  | 13 => { sz := 2, agg := true, offs := [0, 1], fsz := [1, 1], fagg := [false, false], bytes := 24, zero := [.str ByteArray.empty, .int .u64 0] }
  | 14 => { sz := 2, agg := true, offs := [0, 1], fsz := [1, 1], fagg := [false, false], bytes := 24, zero := [.str ByteArray.empty, .int .u64 0] }
  | 15 => { sz := 1, bytes := 8, zero := [.undef] }
  | 16 => { sz := 1, bytes := 8, zero := [.undef] }
  | 17 => { sz := 1, bytes := 8, zero := [.undef] }
  | 18 => { sz := 1, agg := true, offs := [0], fsz := [1], fagg := [false], bytes := 8, zero := [.undef] }
  | 19 => { sz := 1, agg := true, offs := [0], fsz := [1], fagg := [false], bytes := 8, zero := [.undef] }
  | 21 => { sz := 1, ik := some .i32, bytes := 4, zero := [.int .i32 0] }
  | 22 => { sz := 1, elem := 132, slc := true, bytes := 24, zero := [.nil] }
  | 23 => { sz := 1, elem := 136, slc := true, bytes := 24, zero := [.nil] }
  | 24 => { sz := 1, elem := 189, slc := true, bytes := 24, zero := [.nil] }
  | 25 => { sz := 2, agg := true, offs := [0, 1], fsz := [1, 1], fagg := [false, false], bytes := 32, zero := [.int .i64 0, .nil] }
  | 26 => { sz := 2, agg := true, offs := [0, 1], fsz := [1, 1], fagg := [false, false], bytes := 32, zero := [.int .i64 0, .nil] }
  | 27 => { sz := 6, agg := true, offs := [0, 1, 2, 3, 4, 5], fsz := [1, 1, 1, 1, 1, 1], fagg := [false, false, false, false, false, false], eqi := true, bytes := 48, zero := [.int .i64 0, .int .i64 0, .int .i64 0, .int .i64 0, .int .i64 0, .int .i64 0] }
  | 28 => { sz := 6, agg := true, offs := [0, 1, 2, 3, 4, 5], fsz := [1, 1, 1, 1, 1, 1], fagg := [false, false, false, false, false, false], eqi := true, bytes := 48, zero := [.int .i64 0, .int .i64 0, .int .i64 0, .int .i64 0, .int .i64 0, .int .i64 0] }
  | 29 => { sz := 1, bytes := 8, zero := [.undef] }
  | 30 => { sz := 1, bytes := 8, zero := [.undef] }
  | 31 => { sz := 1, bytes := 8, zero := [.undef] }
  | 32 => { sz := 1, elem := 3, slc := true, bytes := 24, zero := [.nil] }
  | 33 => { sz := 1, bytes := 8, zero := [.undef] }
  | 34 => { sz := 1, elem := 130, slc := true, bytes := 24, zero := [.nil] }
  | 35 => { sz := 1, bytes := 8, zero := [.undef] }
  | 36 => { sz := 1, elem := 134, slc := true, bytes := 24, zero := [.nil] }
  | 37 => { sz := 1, bytes := 8, zero := [.undef] }
  | 38 => { sz := 1, elem := 63, slc := true, bytes := 24, zero := [.nil] }
  | 39 => { sz := 2, agg := true, offs := [0, 1], fsz := [1, 1], fagg := [false, false], bytes := 32, zero := [.int .i64 0, .nil] }
  | 40 => { sz := 2, agg := true, offs := [0, 1], fsz := [1, 1], fagg := [false, false], bytes := 32, zero := [.int .i64 0, .nil] }
  | 41 => { sz := 1, bytes := 8, zero := [.undef] }
  | 42 => { sz := 6, agg := true, offs := [0, 1, 2, 3, 4, 5], fsz := [1, 1, 1, 1, 1, 1], fagg := [false, false, false, false, false, false], eqi := true, bytes := 48, zero := [.int .i64 0, .int .i64 0, .int .i64 0, .int .i64 0, .int .i64 0, .int .i64 0] }
  | 43 => { sz := 1, bytes := 8, zero := [.undef] }
  | 44 => { sz := 1, bytes := 8, zero := [.undef] }
  | 45 => { sz := 1, bytes := 8, zero := [.undef] }
  | 46 => { sz := 1, bytes := 8, zero := [.undef] }
  | 47 => { sz := 1, bytes := 8, zero := [.undef] }
  | 48 => { sz := 1, bytes := 8, zero := [.undef] }
  | 49 => { sz := 1, bytes := 8, zero := [.undef] }
  | 50 => { sz := 1, bytes := 8, zero := [.undef] }
  | 51 => { sz := 1, bytes := 8, zero := [.undef] }
  | 52 => { sz := 1, bytes := 8, zero := [.undef] }
  | 53 => { sz := 1, elem := 5, slc := true, bytes := 24, zero := [.nil] }
  | 54 => { sz := 1, bytes := 8, zero := [.undef] }
  | 56 => { sz := 1, bytes := 8, zero := [.undef] }
  | 57 => { sz := 1, elem := 65, slc := true, bytes := 24, zero := [.nil] }
  | 58 => { sz := 1, bytes := 8, zero := [.undef] }
  | 59 => { sz := 1, elem := 61, slc := true, bytes := 24, zero := [.nil] }
  | 60 => { sz := 4, agg := true, offs := [0, 1, 2, 3], fsz := [1, 1, 1, 1], fagg := [false, false, false, false], bytes := 48, zero := [.int .i64 0, .int .i64 0, .int .i64 0, .nil] }
  | 61 => { sz := 4, agg := true, offs := [0, 1, 2, 3], fsz := [1, 1, 1, 1], fagg := [false, false, false, false], bytes := 48, zero := [.int .i64 0, .int .i64 0, .int .i64 0, .nil] }
  | 62 => { sz := 7, agg := true, offs := [0, 1, 2, 3], fsz := [1, 1, 1, 4], fagg := [false, false, false, true], bytes := 72, zero := [.int .i64 0, .int .i64 0, .int .i64 0, .int .i64 0, .int .i64 0, .int .i64 0, .nil] }
  | 63 => { sz := 7, agg := true, offs := [0, 1, 2, 3], fsz := [1, 1, 1, 4], fagg := [false, false, false, true], bytes := 72, zero := [.int .i64 0, .int .i64 0, .int .i64 0, .int .i64 0, .int .i64 0, .int .i64 0, .nil] }
  | 64 => { sz := 2, agg := true, offs := [0, 1], fsz := [1, 1], fagg := [false, false], eqi := true, bytes := 16, zero := [.int .i64 0, .int .i64 0] }
  | 65 => { sz := 2, agg := true, offs := [0, 1], fsz := [1, 1], fagg := [false, false], eqi := true, bytes := 16, zero := [.int .i64 0, .int .i64 0] }
  | 67 => { sz := 1, bytes := 8, zero := [.undef] }
  | 68 => { sz := 1, bytes := 8, zero := [.undef] }
  | 69 => { sz := 1, bytes := 8, zero := [.undef] }
  | 70 => { sz := 1, bytes := 8, zero := [.undef] }
  | 71 => { sz := 1, bytes := 8, zero := [.undef] }
  | 73 => { sz := 1, bytes := 8, zero := [.undef] }
  | 74 => { sz := 1, bytes := 8, zero := [.undef] }
  | 76 => { sz := 1, bytes := 8, zero := [.undef] }
  | 77 => { sz := 1, bytes := 8, zero := [.undef] }
  | 78 => { sz := 1, bytes := 8, zero := [.undef] }
  | 79 => { sz := 1, bytes := 8, zero := [.undef] }
  | 80 => { sz := 1, bytes := 8, zero := [.undef] }
  | 81 => { sz := 1, bytes := 8, zero := [.undef] }
  | 83 => { sz := 1, bytes := 8, zero := [.undef] }
  | 84 => { sz := 1, bytes := 8, zero := [.undef] }
  | 85 => { sz := 1, bytes := 8, zero := [.undef] }
  | 86 => { sz := 1, elem := 88, slc := true, bytes := 24, zero := [.nil] }
  | 87 => { sz := 4, agg := true, offs := [0, 1, 2, 3], fsz := [1, 1, 1, 1], fagg := [false, false, false, false], bytes := 48, zero := [.int .i64 0, .int .i64 0, .int .i64 0, .nil] }
  | 88 => { sz := 4, agg := true, offs := [0, 1, 2, 3], fsz := [1, 1, 1, 1], fagg := [false, false, false, false], bytes := 48, zero := [.int .i64 0, .int .i64 0, .int .i64 0, .nil] }
  | 89 => { sz := 1, bytes := 8, zero := [.undef] }
  | 90 => { sz := 1, bytes := 8, zero := [.undef] }
  | 91 => { sz := 1, bytes := 8, zero := [.undef] }
  | 92 => { sz := 1, bytes := 8, zero := [.undef] }
  | 93 => { sz := 1, bytes := 8, zero := [.undef] }
  | 94 => { sz := 1, bytes := 8, zero := [.undef] }
  | 95 => { sz := 1, elem := 28, slc := true, bytes := 24, zero := [.nil] }
  | 96 => { sz := 1, bytes := 8, zero := [.undef] }
  | 97 => { sz := 1, bytes := 8, zero := [.undef] }
  | 98 => { sz := 1, elem := 42, slc := true, bytes := 24, zero := [.nil] }
  | 99 => { sz := 1, bytes := 8, zero := [.undef] }
  | 100 => { sz := 1, bytes := 8, zero := [.undef] }
  | 101 => { sz := 1, bytes := 8, zero := [.undef] }
  | 102 => { sz := 1, elem := 226, slc := true, bytes := 24, zero := [.nil] }
  | 103 => { sz := 3, agg := true, offs := [0, 1, 2], fsz := [1, 1, 1], fagg := [false, false, false], bytes := 40, zero := [.int .i64 0, .nil, .int .i64 0] }
  | 104 => { sz := 3, agg := true, offs := [0, 1, 2], fsz := [1, 1, 1], fagg := [false, false, false], bytes := 40, zero := [.int .i64 0, .nil, .int .i64 0] }
  | 105 => { sz := 5, agg := true, offs := [0, 1, 4], fsz := [1, 3, 1], fagg := [false, true, false], bytes := 72, zero := [.nil, .int .i64 0, .nil, .int .i64 0, .int .i64 0] }
  | 106 => { sz := 5, agg := true, offs := [0, 1, 4], fsz := [1, 3, 1], fagg := [false, true, false], bytes := 72, zero := [.nil, .int .i64 0, .nil, .int .i64 0, .int .i64 0] }
  | 107 => { sz := 1, bytes := 8, zero := [.undef] }
  | 108 => { sz := 1, bytes := 8, zero := [.undef] }
  | 109 => { sz := 1, elem := 185, slc := true, bytes := 24, zero := [.nil] }
  | 110 => { sz := 3, agg := true, offs := [0, 1, 2], fsz := [1, 1, 1], fagg := [false, false, false], bytes := 40, zero := [.int .i64 0, .nil, .int .i64 0] }
  | 111 => { sz := 3, agg := true, offs := [0, 1, 2], fsz := [1, 1, 1], fagg := [false, false, false], bytes := 40, zero := [.int .i64 0, .nil, .int .i64 0] }
  | 112 => { sz := 5, agg := true, offs := [0, 1, 4], fsz := [1, 3, 1], fagg := [false, true, false], bytes := 72, zero := [.nil, .int .i64 0, .nil, .int .i64 0, .int .i64 0] }
  | 113 => { sz := 5, agg := true, offs := [0, 1, 4], fsz := [1, 3, 1], fagg := [false, true, false], bytes := 72, zero := [.nil, .int .i64 0, .nil, .int .i64 0, .int .i64 0] }
  | 114 => { sz := 1, bytes := 8, zero := [.undef] }
  | 115 => { sz := 1, bytes := 8, zero := [.undef] }
  | 116 => { sz := 1, bytes := 8, zero := [.undef] }
  | 118 => { sz := 1, bytes := 8, zero := [.undef] }
  | 119 => { sz := 1, bytes := 8, zero := [.undef] }
  | 120 => { sz := 1, bytes := 8, zero := [.undef] }
  | 121 => { sz := 1, bytes := 8, zero := [.undef] }
  | 122 => { sz := 1, bytes := 8, zero := [.undef] }
  | 123 => { sz := 1, bytes := 8, zero := [.undef] }
  | 124 => { sz := 1, bytes := 8, zero := [.undef] }
  | 125 => { sz := 1, bytes := 8, zero := [.undef] }
  | 126 => { sz := 1, bytes := 8, zero := [.undef] }
  | 127 => { sz := 1, bytes := 8, zero := [.undef] }
  | 128 => { sz := 1, bytes := 8, zero := [.undef] }
  | 129 => { sz := 2, agg := true, offs := [0, 1], fsz := [1, 1], fagg := [false, false], eqi := true, bytes := 16, zero := [.int .i64 0, .int .i64 0] }
  | 130 => { sz := 2, agg := true, offs := [0, 1], fsz := [1, 1], fagg := [false, false], eqi := true, bytes := 16, zero := [.int .i64 0, .int .i64 0] }
  | 131 => { sz := 1, bytes := 8, zero := [.undef] }
  | 132 => { sz := 2, agg := true, offs := [0, 1], fsz := [1, 1], fagg := [false, false], eqi := true, bytes := 16, zero := [.int .i64 0, .int .i64 0] }
  | 133 => { sz := 6, agg := true, offs := [0, 1, 2, 3, 4, 5], fsz := [1, 1, 1, 1, 1, 1], fagg := [false, false, false, false, false, false], eqi := true, bytes := 48, zero := [.int .i64 0, .int .i64 0, .int .i64 0, .int .i64 0, .int .i64 0, .int .i64 0] }
  | 134 => { sz := 6, agg := true, offs := [0, 1, 2, 3, 4, 5], fsz := [1, 1, 1, 1, 1, 1], fagg := [false, false, false, false, false, false], eqi := true, bytes := 48, zero := [.int .i64 0, .int .i64 0, .int .i64 0, .int .i64 0, .int .i64 0, .int .i64 0] }
  | 135 => { sz := 1, bytes := 8, zero := [.undef] }
  | 136 => { sz := 6, agg := true, offs := [0, 1, 2, 3, 4, 5], fsz := [1, 1, 1, 1, 1, 1], fagg := [false, false, false, false, false, false], eqi := true, bytes := 48, zero := [.int .i64 0, .int .i64 0, .int .i64 0, .int .i64 0, .int .i64 0, .int .i64 0] }
  | 137 => { sz := 1, bytes := 8, zero := [.undef] }
  | 138 => { sz := 1, bytes := 8, zero := [.undef] }
  | 139 => { sz := 1, bytes := 8, zero := [.undef] }
  | 140 => { sz := 1, bytes := 8, zero := [.undef] }
  | 141 => { sz := 1, bytes := 8, zero := [.undef] }
  | 142 => { sz := 1, bytes := 8, zero := [.undef] }
  | 143 => { sz := 1, bytes := 8, zero := [.undef] }
  | 145 => { sz := 1, bytes := 8, zero := [.undef] }
  | 146 => { sz := 1, bytes := 8, zero := [.undef] }
  | 147 => { sz := 1, bytes := 8, zero := [.undef] }
  | 148 => { sz := 1, bytes := 8, zero := [.undef] }
  | 149 => { sz := 1, bytes := 8, zero := [.undef] }
  | 150 => { sz := 1, bytes := 8, zero := [.undef] }
  | 151 => { sz := 1, bytes := 8, zero := [.undef] }
  | 152 => { sz := 1, bytes := 8, zero := [.undef] }
  | 153 => { sz := 1, bytes := 8, zero := [.undef] }
  | 154 => { sz := 1, bytes := 8, zero := [.undef] }
  | 155 => { sz := 1, bytes := 8, zero := [.undef] }
  | 156 => { sz := 1, bytes := 8, zero := [.undef] }
  | 157 => { sz := 1, bytes := 8, zero := [.undef] }
  | 158 => { sz := 1, bytes := 8, zero := [.undef] }
  | 159 => { sz := 1, elem := 4, slc := true, bytes := 24, zero := [.nil] }
  | 160 => { sz := 1, bytes := 8, zero := [.undef] }
  | 161 => { sz := 1, bytes := 8, zero := [.undef] }
  | 162 => { sz := 1, bytes := 8, zero := [.undef] }
  | 163 => { sz := 1, bytes := 8, zero := [.undef] }
  | 164 => { sz := 1, bytes := 8, zero := [.undef] }
  | 165 => { sz := 1, bytes := 8, zero := [.undef] }
  | 166 => { sz := 1, bytes := 8, zero := [.undef] }
  | 167 => { sz := 1, bytes := 8, zero := [.undef] }
  | 168 => { sz := 1, bytes := 8, zero := [.undef] }
  | 169 => { sz := 1, bytes := 8, zero := [.undef] }
  | 170 => { sz := 1, bytes := 8, zero := [.undef] }
  | 171 => { sz := 1, bytes := 8, zero := [.undef] }
  | 172 => { sz := 1, bytes := 8, zero := [.undef] }
  | 173 => { sz := 1, bytes := 8, zero := [.undef] }
  | 174 => { sz := 1, bytes := 8, zero := [.undef] }
  | 175 => { sz := 1, bytes := 8, zero := [.undef] }
  | 176 => { sz := 1, bytes := 8, zero := [.undef] }
  | 177 => { sz := 1, bytes := 8, zero := [.undef] }
  | 178 => { sz := 1, bytes := 8, zero := [.undef] }
  | 179 => { sz := 1, bytes := 8, zero := [.undef] }
  | 180 => { sz := 1, bytes := 8, zero := [.undef] }
  | 181 => { sz := 1, bytes := 8, zero := [.undef] }
  | 183 => { sz := 1, bytes := 8, zero := [.undef] }
  | 184 => { sz := 3, agg := true, offs := [0, 1, 2], fsz := [1, 1, 1], fagg := [false, false, false], eqi := true, bytes := 24, zero := [.int .i64 0, .int .i64 0, .int .i64 0] }
  | 185 => { sz := 3, agg := true, offs := [0, 1, 2], fsz := [1, 1, 1], fagg := [false, false, false], eqi := true, bytes := 24, zero := [.int .i64 0, .int .i64 0, .int .i64 0] }
  | 186 => { sz := 1, bytes := 8, zero := [.undef] }
  | 187 => { sz := 1, bytes := 8, zero := [.undef] }
  | 188 => { sz := 7, agg := true, offs := [0, 1, 2, 3], fsz := [1, 1, 1, 4], fagg := [false, false, false, true], bytes := 72, zero := [.int .i64 0, .int .i64 0, .int .i64 0, .int .i64 0, .int .i64 0, .int .i64 0, .nil] }
  | 189 => { sz := 7, agg := true, offs := [0, 1, 2, 3], fsz := [1, 1, 1, 4], fagg := [false, false, false, true], bytes := 72, zero := [.int .i64 0, .int .i64 0, .int .i64 0, .int .i64 0, .int .i64 0, .int .i64 0, .nil] }
  | 190 => { sz := 1, bytes := 8, zero := [.undef] }
  | 191 => { sz := 1, bytes := 8, zero := [.undef] }
  | 192 => { sz := 3, agg := true, offs := [0, 1, 2], fsz := [1, 1, 1], fagg := [false, false, false], bytes := 40, zero := [.nil, .int .i64 0, .int .i64 0] }
  | 193 => { sz := 3, agg := true, offs := [0, 1, 2], fsz := [1, 1, 1], fagg := [false, false, false], bytes := 40, zero := [.nil, .int .i64 0, .int .i64 0] }
  | 194 => { sz := 1, bytes := 8, zero := [.undef] }
  | 195 => { sz := 1, bytes := 8, zero := [.undef] }
  | 196 => { sz := 1, bytes := 8, zero := [.undef] }
  | 197 => { sz := 1, bytes := 8, zero := [.undef] }
  | 199 => { sz := 1, bytes := 8, zero := [.undef] }
  | 200 => { sz := 1, bytes := 8, zero := [.undef] }
  | 201 => { sz := 1, bytes := 8, zero := [.undef] }
  | 202 => { sz := 1, bytes := 8, zero := [.undef] }
  | 203 => { sz := 1, bytes := 8, zero := [.undef] }
  | 204 => { sz := 1, bytes := 8, zero := [.undef] }
  | 205 => { sz := 1, bytes := 8, zero := [.undef] }
  | 206 => { sz := 1, bytes := 8, zero := [.undef] }
  | 207 => { sz := 1, bytes := 8, zero := [.undef] }
  | 208 => { sz := 1, bytes := 8, zero := [.undef] }
  | 209 => { sz := 1, bytes := 8, zero := [.undef] }
  | 210 => { sz := 1, bytes := 8, zero := [.undef] }
  | 211 => { sz := 1, bytes := 8, zero := [.undef] }
  | 212 => { sz := 1, bytes := 8, zero := [.undef] }
  | 213 => { sz := 1, bytes := 8, zero := [.undef] }
  | 214 => { sz := 1, bytes := 8, zero := [.undef] }
  | 215 => { sz := 1, bytes := 8, zero := [.undef] }
  | 216 => { sz := 1, bytes := 8, zero := [.undef] }
  | 217 => { sz := 1, bytes := 8, zero := [.undef] }
  | 218 => { sz := 1, bytes := 8, zero := [.undef] }
  | 219 => { sz := 1, bytes := 8, zero := [.undef] }
  | 220 => { sz := 1, ik := some .u64, bytes := 8, zero := [.int .u64 0] }
  | 221 => { sz := 1, bytes := 8, zero := [.undef] }
  | 222 => { sz := 1, bytes := 8, zero := [.undef] }
  | 223 => { sz := 1, bytes := 8, zero := [.undef] }
  | 224 => { sz := 1, bytes := 8, zero := [.undef] }
  | 225 => { sz := 1, bytes := 8, zero := [.undef] }
  | 226 => { sz := 3, agg := true, offs := [0, 1, 2], fsz := [1, 1, 1], fagg := [false, false, false], eqi := true, bytes := 24, zero := [.int .i64 0, .int .i64 0, .int .i64 0] }
  | 227 => { sz := 1, bytes := 8, zero := [.undef] }
  | 228 => { sz := 1, bytes := 8, zero := [.undef] }
  | 229 => { sz := 1, bytes := 8, zero := [.undef] }
  | 230 => { sz := 1, bytes := 8, zero := [.undef] }
  | 231 => { sz := 1, bytes := 8, zero := [.undef] }
  | 232 => { sz := 6, agg := true, elem := 4, alen := some 6, bytes := 6, zero := [.bool false, .bool false, .bool false, .bool false, .bool false, .bool false] }
  | 233 => { sz := 1, bytes := 8, zero := [.undef] }
  | 234 => { sz := 1, bytes := 8, zero := [.undef] }
  | 235 => { sz := 1, bytes := 8, zero := [.undef] }
  | 236 => { sz := 1, bytes := 8, zero := [.undef] }
  | 237 => { sz := 1, ik := some .i64, bytes := 8, zero := [.int .i64 0] }
  | 239 => { sz := 1, bytes := 8, zero := [.undef] }
  | 240 => { sz := 1, bytes := 8, zero := [.undef] }
  | 241 => { sz := 1, bytes := 8, zero := [.undef] }
  | 243 => { sz := 1, bytes := 8, zero := [.undef] }
  | 244 => { sz := 1, bytes := 8, zero := [.undef] }
  | 245 => { sz := 1, ik := some .u32, bytes := 4, zero := [.int .u32 0] }
  | 246 => { sz := 1, bytes := 8, zero := [.undef] }
  | 247 => { sz := 1, ik := some .u64, bytes := 8, zero := [.int .u64 0] }
  | 248 => { sz := 1, ik := some .u64, bytes := 8, zero := [.int .u64 0] }
  | 249 => { sz := 1, bytes := 8, zero := [.undef] }
  | 250 => { sz := 1, bytes := 8, zero := [.undef] }
  | 251 => { sz := 1, bytes := 8, zero := [.undef] }
  | 252 => { sz := 1, bytes := 8, zero := [.undef] }
  | 253 => { sz := 1, bytes := 8, zero := [.undef] }
  | 254 => { sz := 1, bytes := 8, zero := [.undef] }
  | 256 => { sz := 1, bytes := 8, zero := [.undef] }
  | 257 => { sz := 1, bytes := 8, zero := [.undef] }
  | 258 => { sz := 4, agg := true, offs := [0, 1, 2, 3], fsz := [1, 1, 1, 1], fagg := [false, false, false, false], bytes := 40, zero := [.undef, .undef, .undef, .str ByteArray.empty] }
  | 259 => { sz := 4, agg := true, offs := [0, 1, 2, 3], fsz := [1, 1, 1, 1], fagg := [false, false, false, false], bytes := 40, zero := [.undef, .undef, .undef, .str ByteArray.empty] }
  | 263 => { sz := 1, bytes := 8, zero := [.undef] }
  | 264 => { sz := 1, ik := some .u8, bytes := 1, zero := [.int .u8 0] }
  | 265 => { sz := 1, ik := some .u8, bytes := 1, zero := [.int .u8 0] }
  | 266 => { sz := 1, bytes := 8, zero := [.undef] }
  | 267 => { sz := 1, bytes := 8, zero := [.undef] }
  | 268 => { sz := 1, ik := some .i32, bytes := 4, zero := [.int .i32 0] }
  | 269 => { sz := 1, ik := some .i32, bytes := 4, zero := [.int .i32 0] }
  | 270 => { sz := 11, agg := true, offs := [0, 1, 2, 3, 4, 5, 6, 7, 8, 9, 10], fsz := [1, 1, 1, 1, 1, 1, 1, 1, 1, 1, 1], fagg := [false, false, false, false, false, false, false, false, false, false, false], bytes := 48, zero := [.int .u64 0, .int .u64 0, .int .u32 0, .int .u8 0, .int .u8 0, .int .u8 0, .int .u8 0, .undef, .undef, .int .i32 0, .int .i32 0] }
  | 271 => { sz := 11, agg := true, offs := [0, 1, 2, 3, 4, 5, 6, 7, 8, 9, 10], fsz := [1, 1, 1, 1, 1, 1, 1, 1, 1, 1, 1], fagg := [false, false, false, false, false, false, false, false, false, false, false], bytes := 48, zero := [.int .u64 0, .int .u64 0, .int .u32 0, .int .u8 0, .int .u8 0, .int .u8 0, .int .u8 0, .undef, .undef, .int .i32 0, .int .i32 0] }
  | _ => {}
theorem ty1 : ty 1 = { sz := 1, bytes := 8, zero := [.undef] } := rfl
theorem ty2 : ty 2 = { sz := 1, ik := some .i64, bytes := 8, zero := [.int .i64 0] } := rfl
theorem ty3 : ty 3 = { sz := 1, ik := some .i64, bytes := 8, zero := [.int .i64 0] } := rfl
theorem ty4 : ty 4 = { sz := 1, bl := true, bytes := 1, zero := [.bool false] } := rfl
theorem ty5 : ty 5 = { sz := 1, ik := some .u8, bytes := 1, zero := [.int .u8 0] } := rfl
theorem ty6 : ty 6 = { sz := 1, ik := some .u8, bytes := 1, zero := [.int .u8 0] } := rfl
theorem ty7 : ty 7 = { sz := 4, agg := true, offs := [0, 1, 2, 3], fsz := [1, 1, 1, 1], fagg := [false, false, false, false], bytes := 24, zero := [.int .i64 0, .int .i64 0, .bool false, .int .u8 0] } := rfl
theorem ty8 : ty 8 = { sz := 4, agg := true, offs := [0, 1, 2, 3], fsz := [1, 1, 1, 1], fagg := [false, false, false, false], bytes := 24, zero := [.int .i64 0, .int .i64 0, .bool false, .int .u8 0] } := rfl
theorem ty9 : ty 9 = { sz := 1, st := true, bytes := 16, zero := [.str ByteArray.empty] } := rfl
theorem ty10 : ty 10 = { sz := 1, st := true, bytes := 16, zero := [.str ByteArray.empty] } := rfl
theorem ty11 : ty 11 = { sz := 1, st := true, bytes := 16, zero := [.str ByteArray.empty] } := rfl
theorem ty12 : ty 12 = { sz := 1, ik := some .u64, bytes := 8, zero := [.int .u64 0] } := rfl
theorem ty13 : ty 13 = { sz := 2, agg := true, offs := [0, 1], fsz := [1, 1], fagg := [false, false], bytes := 24, zero := [.str ByteArray.empty, .int .u64 0] } := rfl
theorem ty14 : ty 14 = { sz := 2, agg := true, offs := [0, 1], fsz := [1, 1], fagg := [false, false], bytes := 24, zero := [.str ByteArray.empty, .int .u64 0] } := rfl
theorem ty15 : ty 15 = { sz := 1, bytes := 8, zero := [.undef] } := rfl
theorem ty16 : ty 16 = { sz := 1, bytes := 8, zero := [.undef] } := rfl
theorem ty17 : ty 17 = { sz := 1, bytes := 8, zero := [.undef] } := rfl
theorem ty18 : ty 18 = { sz := 1, agg := true, offs := [0], fsz := [1], fagg := [false], bytes := 8, zero := [.undef] } := rfl
theorem ty19 : ty 19 = { sz := 1, agg := true, offs := [0], fsz := [1], fagg := [false], bytes := 8, zero := [.undef] } := rfl
theorem ty21 : ty 21 = { sz := 1, ik := some .i32, bytes := 4, zero := [.int .i32 0] } := rfl
theorem ty22 : ty 22 = { sz := 1, elem := 132, slc := true, bytes := 24, zero := [.nil] } := rfl
theorem ty23 : ty 23 = { sz := 1, elem := 136, slc := true, bytes := 24, zero := [.nil] } := rfl
theorem ty24 : ty 24 = { sz := 1, elem := 189, slc := true, bytes := 24, zero := [.nil] } := rfl
theorem ty25 : ty 25 = { sz := 2, agg := true, offs := [0, 1], fsz := [1, 1], fagg := [false, false], bytes := 32, zero := [.int .i64 0, .nil] } := rfl
theorem ty26 : ty 26 = { sz := 2, agg := true, offs := [0, 1], fsz := [1, 1], fagg := [false, false], bytes := 32, zero := [.int .i64 0, .nil] } := rfl
theorem ty27 : ty 27 = { sz := 6, agg := true, offs := [0, 1, 2, 3, 4, 5], fsz := [1, 1, 1, 1, 1, 1], fagg := [false, false, false, false, false, false], eqi := true, bytes := 48, zero := [.int .i64 0, .int .i64 0, .int .i64 0, .int .i64 0, .int .i64 0, .int .i64 0] } := rfl
theorem ty28 : ty 28 = { sz := 6, agg := true, offs := [0, 1, 2, 3, 4, 5], fsz := [1, 1, 1, 1, 1, 1], fagg := [false, false, false, false, false, false], eqi := true, bytes := 48, zero := [.int .i64 0, .int .i64 0, .int .i64 0, .int .i64 0, .int .i64 0, .int .i64 0] } := rfl
theorem ty29 : ty 29 = { sz := 1, bytes := 8, zero := [.undef] } := rfl
theorem ty30 : ty 30 = { sz := 1, bytes := 8, zero := [.undef] } := rfl
theorem ty31 : ty 31 = { sz := 1, bytes := 8, zero := [.undef] } := rfl
theorem ty32 : ty 32 = { sz := 1, elem := 3, slc := true, bytes := 24, zero := [.nil] } := rfl
theorem ty33 : ty 33 = { sz := 1, bytes := 8, zero := [.undef] } := rfl
theorem ty34 : ty 34 = { sz := 1, elem := 130, slc := true, bytes := 24, zero := [.nil] } := rfl
theorem ty35 : ty 35 = { sz := 1, bytes := 8, zero := [.undef] } := rfl
theorem ty36 : ty 36 = { sz := 1, elem := 134, slc := true, bytes := 24, zero := [.nil] } := rfl
theorem ty37 : ty 37 = { sz := 1, bytes := 8, zero := [.undef] } := rfl
theorem ty38 : ty 38 = { sz := 1, elem := 63, slc := true, bytes := 24, zero := [.nil] } := rfl
theorem ty39 : ty 39 = { sz := 2, agg := true, offs := [0, 1], fsz := [1, 1], fagg := [false, false], bytes := 32, zero := [.int .i64 0, .nil] } := rfl
theorem ty40 : ty 40 = { sz := 2, agg := true, offs := [0, 1], fsz := [1, 1], fagg := [false, false], bytes := 32, zero := [.int .i64 0, .nil] } := rfl
theorem ty41 : ty 41 = { sz := 1, bytes := 8, zero := [.undef] } := rfl
theorem ty42 : ty 42 = { sz := 6, agg := true, offs := [0, 1, 2, 3, 4, 5], fsz := [1, 1, 1, 1, 1, 1], fagg := [false, false, false, false, false, false], eqi := true, bytes := 48, zero := [.int .i64 0, .int .i64 0, .int .i64 0, .int .i64 0, .int .i64 0, .int .i64 0] } := rfl
theorem ty43 : ty 43 = { sz := 1, bytes := 8, zero := [.undef] } := rfl
theorem ty44 : ty 44 = { sz := 1, bytes := 8, zero := [.undef] } := rfl
theorem ty45 : ty 45 = { sz := 1, bytes := 8, zero := [.undef] } := rfl
theorem ty46 : ty 46 = { sz := 1, bytes := 8, zero := [.undef] } := rfl
theorem ty47 : ty 47 = { sz := 1, bytes := 8, zero := [.undef] } := rfl
theorem ty48 : ty 48 = { sz := 1, bytes := 8, zero := [.undef] } := rfl
theorem ty49 : ty 49 = { sz := 1, bytes := 8, zero := [.undef] } := rfl
theorem ty50 : ty 50 = { sz := 1, bytes := 8, zero := [.undef] } := rfl
theorem ty51 : ty 51 = { sz := 1, bytes := 8, zero := [.undef] } := rfl
theorem ty52 : ty 52 = { sz := 1, bytes := 8, zero := [.undef] } := rfl
theorem ty53 : ty 53 = { sz := 1, elem := 5, slc := true, bytes := 24, zero := [.nil] } := rfl
theorem ty54 : ty 54 = { sz := 1, bytes := 8, zero := [.undef] } := rfl
theorem ty56 : ty 56 = { sz := 1, bytes := 8, zero := [.undef] } := rfl
theorem ty57 : ty 57 = { sz := 1, elem := 65, slc := true, bytes := 24, zero := [.nil] } := rfl
theorem ty58 : ty 58 = { sz := 1, bytes := 8, zero := [.undef] } := rfl
theorem ty59 : ty 59 = { sz := 1, elem := 61, slc := true, bytes := 24, zero := [.nil] } := rfl
theorem ty60 : ty 60 = { sz := 4, agg := true, offs := [0, 1, 2, 3], fsz := [1, 1, 1, 1], fagg := [false, false, false, false], bytes := 48, zero := [.int .i64 0, .int .i64 0, .int .i64 0, .nil] } := rfl
theorem ty61 : ty 61 = { sz := 4, agg := true, offs := [0, 1, 2, 3], fsz := [1, 1, 1, 1], fagg := [false, false, false, false], bytes := 48, zero := [.int .i64 0, .int .i64 0, .int .i64 0, .nil] } := rfl
theorem ty62 : ty 62 = { sz := 7, agg := true, offs := [0, 1, 2, 3], fsz := [1, 1, 1, 4], fagg := [false, false, false, true], bytes := 72, zero := [.int .i64 0, .int .i64 0, .int .i64 0, .int .i64 0, .int .i64 0, .int .i64 0, .nil] } := rfl
theorem ty63 : ty 63 = { sz := 7, agg := true, offs := [0, 1, 2, 3], fsz := [1, 1, 1, 4], fagg := [false, false, false, true], bytes := 72, zero := [.int .i64 0, .int .i64 0, .int .i64 0, .int .i64 0, .int .i64 0, .int .i64 0, .nil] } := rfl
theorem ty64 : ty 64 = { sz := 2, agg := true, offs := [0, 1], fsz := [1, 1], fagg := [false, false], eqi := true, bytes := 16, zero := [.int .i64 0, .int .i64 0] } := rfl
theorem ty65 : ty 65 = { sz := 2, agg := true, offs := [0, 1], fsz := [1, 1], fagg := [false, false], eqi := true, bytes := 16, zero := [.int .i64 0, .int .i64 0] } := rfl
theorem ty67 : ty 67 = { sz := 1, bytes := 8, zero := [.undef] } := rfl
theorem ty68 : ty 68 = { sz := 1, bytes := 8, zero := [.undef] } := rfl
theorem ty69 : ty 69 = { sz := 1, bytes := 8, zero := [.undef] } := rfl
theorem ty70 : ty 70 = { sz := 1, bytes := 8, zero := [.undef] } := rfl
theorem ty71 : ty 71 = { sz := 1, bytes := 8, zero := [.undef] } := rfl
theorem ty73 : ty 73 = { sz := 1, bytes := 8, zero := [.undef] } := rfl
theorem ty74 : ty 74 = { sz := 1, bytes := 8, zero := [.undef] } := rfl
theorem ty76 : ty 76 = { sz := 1, bytes := 8, zero := [.undef] } := rfl
theorem ty77 : ty 77 = { sz := 1, bytes := 8, zero := [.undef] } := rfl
theorem ty78 : ty 78 = { sz := 1, bytes := 8, zero := [.undef] } := rfl
theorem ty79 : ty 79 = { sz := 1, bytes := 8, zero := [.undef] } := rfl
theorem ty80 : ty 80 = { sz := 1, bytes := 8, zero := [.undef] } := rfl
theorem ty81 : ty 81 = { sz := 1, bytes := 8, zero := [.undef] } := rfl
theorem ty83 : ty 83 = { sz := 1, bytes := 8, zero := [.undef] } := rfl
theorem ty84 : ty 84 = { sz := 1, bytes := 8, zero := [.undef] } := rfl
theorem ty85 : ty 85 = { sz := 1, bytes := 8, zero := [.undef] } := rfl
theorem ty86 : ty 86 = { sz := 1, elem := 88, slc := true, bytes := 24, zero := [.nil] } := rfl
theorem ty87 : ty 87 = { sz := 4, agg := true, offs := [0, 1, 2, 3], fsz := [1, 1, 1, 1], fagg := [false, false, false, false], bytes := 48, zero := [.int .i64 0, .int .i64 0, .int .i64 0, .nil] } := rfl
theorem ty88 : ty 88 = { sz := 4, agg := true, offs := [0, 1, 2, 3], fsz := [1, 1, 1, 1], fagg := [false, false, false, false], bytes := 48, zero := [.int .i64 0, .int .i64 0, .int .i64 0, .nil] } := rfl
theorem ty89 : ty 89 = { sz := 1, bytes := 8, zero := [.undef] } := rfl
theorem ty90 : ty 90 = { sz := 1, bytes := 8, zero := [.undef] } := rfl
theorem ty91 : ty 91 = { sz := 1, bytes := 8, zero := [.undef] } := rfl
theorem ty92 : ty 92 = { sz := 1, bytes := 8, zero := [.undef] } := rfl
theorem ty93 : ty 93 = { sz := 1, bytes := 8, zero := [.undef] } := rfl
theorem ty94 : ty 94 = { sz := 1, bytes := 8, zero := [.undef] } := rfl
theorem ty95 : ty 95 = { sz := 1, elem := 28, slc := true, bytes := 24, zero := [.nil] } := rfl
theorem ty96 : ty 96 = { sz := 1, bytes := 8, zero := [.undef] } := rfl
theorem ty97 : ty 97 = { sz := 1, bytes := 8, zero := [.undef] } := rfl
theorem ty98 : ty 98 = { sz := 1, elem := 42, slc := true, bytes := 24, zero := [.nil] } := rfl
theorem ty99 : ty 99 = { sz := 1, bytes := 8, zero := [.undef] } := rfl
theorem ty100 : ty 100 = { sz := 1, bytes := 8, zero := [.undef] } := rfl
theorem ty101 : ty 101 = { sz := 1, bytes := 8, zero := [.undef] } := rfl
theorem ty102 : ty 102 = { sz := 1, elem := 226, slc := true, bytes := 24, zero := [.nil] } := rfl
theorem ty103 : ty 103 = { sz := 3, agg := true, offs := [0, 1, 2], fsz := [1, 1, 1], fagg := [false, false, false], bytes := 40, zero := [.int .i64 0, .nil, .int .i64 0] } := rfl
theorem ty104 : ty 104 = { sz := 3, agg := true, offs := [0, 1, 2], fsz := [1, 1, 1], fagg := [false, false, false], bytes := 40, zero := [.int .i64 0, .nil, .int .i64 0] } := rfl
theorem ty105 : ty 105 = { sz := 5, agg := true, offs := [0, 1, 4], fsz := [1, 3, 1], fagg := [false, true, false], bytes := 72, zero := [.nil, .int .i64 0, .nil, .int .i64 0, .int .i64 0] } := rfl
theorem ty106 : ty 106 = { sz := 5, agg := true, offs := [0, 1, 4], fsz := [1, 3, 1], fagg := [false, true, false], bytes := 72, zero := [.nil, .int .i64 0, .nil, .int .i64 0, .int .i64 0] } := rfl
theorem ty107 : ty 107 = { sz := 1, bytes := 8, zero := [.undef] } := rfl
theorem ty108 : ty 108 = { sz := 1, bytes := 8, zero := [.undef] } := rfl
theorem ty109 : ty 109 = { sz := 1, elem := 185, slc := true, bytes := 24, zero := [.nil] } := rfl
theorem ty110 : ty 110 = { sz := 3, agg := true, offs := [0, 1, 2], fsz := [1, 1, 1], fagg := [false, false, false], bytes := 40, zero := [.int .i64 0, .nil, .int .i64 0] } := rfl
theorem ty111 : ty 111 = { sz := 3, agg := true, offs := [0, 1, 2], fsz := [1, 1, 1], fagg := [false, false, false], bytes := 40, zero := [.int .i64 0, .nil, .int .i64 0] } := rfl
theorem ty112 : ty 112 = { sz := 5, agg := true, offs := [0, 1, 4], fsz := [1, 3, 1], fagg := [false, true, false], bytes := 72, zero := [.nil, .int .i64 0, .nil, .int .i64 0, .int .i64 0] } := rfl
theorem ty113 : ty 113 = { sz := 5, agg := true, offs := [0, 1, 4], fsz := [1, 3, 1], fagg := [false, true, false], bytes := 72, zero := [.nil, .int .i64 0, .nil, .int .i64 0, .int .i64 0] } := rfl
theorem ty114 : ty 114 = { sz := 1, bytes := 8, zero := [.undef] } := rfl
theorem ty115 : ty 115 = { sz := 1, bytes := 8, zero := [.undef] } := rfl
theorem ty116 : ty 116 = { sz := 1, bytes := 8, zero := [.undef] } := rfl
theorem ty118 : ty 118 = { sz := 1, bytes := 8, zero := [.undef] } := rfl
theorem ty119 : ty 119 = { sz := 1, bytes := 8, zero := [.undef] } := rfl
theorem ty120 : ty 120 = { sz := 1, bytes := 8, zero := [.undef] } := rfl
theorem ty121 : ty 121 = { sz := 1, bytes := 8, zero := [.undef] } := rfl
theorem ty122 : ty 122 = { sz := 1, bytes := 8, zero := [.undef] } := rfl
theorem ty123 : ty 123 = { sz := 1, bytes := 8, zero := [.undef] } := rfl
theorem ty124 : ty 124 = { sz := 1, bytes := 8, zero := [.undef] } := rfl
theorem ty125 : ty 125 = { sz := 1, bytes := 8, zero := [.undef] } := rfl
theorem ty126 : ty 126 = { sz := 1, bytes := 8, zero := [.undef] } := rfl
theorem ty127 : ty 127 = { sz := 1, bytes := 8, zero := [.undef] } := rfl
theorem ty128 : ty 128 = { sz := 1, bytes := 8, zero := [.undef] } := rfl
theorem ty129 : ty 129 = { sz := 2, agg := true, offs := [0, 1], fsz := [1, 1], fagg := [false, false], eqi := true, bytes := 16, zero := [.int .i64 0, .int .i64 0] } := rfl
theorem ty130 : ty 130 = { sz := 2, agg := true, offs := [0, 1], fsz := [1, 1], fagg := [false, false], eqi := true, bytes := 16, zero := [.int .i64 0, .int .i64 0] } := rfl
theorem ty131 : ty 131 = { sz := 1, bytes := 8, zero := [.undef] } := rfl
theorem ty132 : ty 132 = { sz := 2, agg := true, offs := [0, 1], fsz := [1, 1], fagg := [false, false], eqi := true, bytes := 16, zero := [.int .i64 0, .int .i64 0] } := rfl
theorem ty133 : ty 133 = { sz := 6, agg := true, offs := [0, 1, 2, 3, 4, 5], fsz := [1, 1, 1, 1, 1, 1], fagg := [false, false, false, false, false, false], eqi := true, bytes := 48, zero := [.int .i64 0, .int .i64 0, .int .i64 0, .int .i64 0, .int .i64 0, .int .i64 0] } := rfl
theorem ty134 : ty 134 = { sz := 6, agg := true, offs := [0, 1, 2, 3, 4, 5], fsz := [1, 1, 1, 1, 1, 1], fagg := [false, false, false, false, false, false], eqi := true, bytes := 48, zero := [.int .i64 0, .int .i64 0, .int .i64 0, .int .i64 0, .int .i64 0, .int .i64 0] } := rfl
theorem ty135 : ty 135 = { sz := 1, bytes := 8, zero := [.undef] } := rfl
theorem ty136 : ty 136 = { sz := 6, agg := true, offs := [0, 1, 2, 3, 4, 5], fsz := [1, 1, 1, 1, 1, 1], fagg := [false, false, false, false, false, false], eqi := true, bytes := 48, zero := [.int .i64 0, .int .i64 0, .int .i64 0, .int .i64 0, .int .i64 0, .int .i64 0] } := rfl
theorem ty137 : ty 137 = { sz := 1, bytes := 8, zero := [.undef] } := rfl
theorem ty138 : ty 138 = { sz := 1, bytes := 8, zero := [.undef] } := rfl
theorem ty139 : ty 139 = { sz := 1, bytes := 8, zero := [.undef] } := rfl
theorem ty140 : ty 140 = { sz := 1, bytes := 8, zero := [.undef] } := rfl
theorem ty141 : ty 141 = { sz := 1, bytes := 8, zero := [.undef] } := rfl
theorem ty142 : ty 142 = { sz := 1, bytes := 8, zero := [.undef] } := rfl
theorem ty143 : ty 143 = { sz := 1, bytes := 8, zero := [.undef] } := rfl
theorem ty145 : ty 145 = { sz := 1, bytes := 8, zero := [.undef] } := rfl
theorem ty146 : ty 146 = { sz := 1, bytes := 8, zero := [.undef] } := rfl
theorem ty147 : ty 147 = { sz := 1, bytes := 8, zero := [.undef] } := rfl
theorem ty148 : ty 148 = { sz := 1, bytes := 8, zero := [.undef] } := rfl
theorem ty149 : ty 149 = { sz := 1, bytes := 8, zero := [.undef] } := rfl
theorem ty150 : ty 150 = { sz := 1, bytes := 8, zero := [.undef] } := rfl
theorem ty151 : ty 151 = { sz := 1, bytes := 8, zero := [.undef] } := rfl
theorem ty152 : ty 152 = { sz := 1, bytes := 8, zero := [.undef] } := rfl
theorem ty153 : ty 153 = { sz := 1, bytes := 8, zero := [.undef] } := rfl
theorem ty154 : ty 154 = { sz := 1, bytes := 8, zero := [.undef] } := rfl
theorem ty155 : ty 155 = { sz := 1, bytes := 8, zero := [.undef] } := rfl
theorem ty156 : ty 156 = { sz := 1, bytes := 8, zero := [.undef] } := rfl
theorem ty157 : ty 157 = { sz := 1, bytes := 8, zero := [.undef] } := rfl
theorem ty158 : ty 158 = { sz := 1, bytes := 8, zero := [.undef] } := rfl
theorem ty159 : ty 159 = { sz := 1, elem := 4, slc := true, bytes := 24, zero := [.nil] } := rfl
theorem ty160 : ty 160 = { sz := 1, bytes := 8, zero := [.undef] } := rfl
theorem ty161 : ty 161 = { sz := 1, bytes := 8, zero := [.undef] } := rfl
theorem ty162 : ty 162 = { sz := 1, bytes := 8, zero := [.undef] } := rfl
theorem ty163 : ty 163 = { sz := 1, bytes := 8, zero := [.undef] } := rfl
theorem ty164 : ty 164 = { sz := 1, bytes := 8, zero := [.undef] } := rfl
theorem ty165 : ty 165 = { sz := 1, bytes := 8, zero := [.undef] } := rfl
theorem ty166 : ty 166 = { sz := 1, bytes := 8, zero := [.undef] } := rfl
theorem ty167 : ty 167 = { sz := 1, bytes := 8, zero := [.undef] } := rfl
theorem ty168 : ty 168 = { sz := 1, bytes := 8, zero := [.undef] } := rfl
theorem ty169 : ty 169 = { sz := 1, bytes := 8, zero := [.undef] } := rfl
theorem ty170 : ty 170 = { sz := 1, bytes := 8, zero := [.undef] } := rfl
theorem ty171 : ty 171 = { sz := 1, bytes := 8, zero := [.undef] } := rfl
theorem ty172 : ty 172 = { sz := 1, bytes := 8, zero := [.undef] } := rfl
theorem ty173 : ty 173 = { sz := 1, bytes := 8, zero := [.undef] } := rfl
theorem ty174 : ty 174 = { sz := 1, bytes := 8, zero := [.undef] } := rfl
theorem ty175 : ty 175 = { sz := 1, bytes := 8, zero := [.undef] } := rfl
theorem ty176 : ty 176 = { sz := 1, bytes := 8, zero := [.undef] } := rfl
theorem ty177 : ty 177 = { sz := 1, bytes := 8, zero := [.undef] } := rfl
theorem ty178 : ty 178 = { sz := 1, bytes := 8, zero := [.undef] } := rfl
theorem ty179 : ty 179 = { sz := 1, bytes := 8, zero := [.undef] } := rfl
theorem ty180 : ty 180 = { sz := 1, bytes := 8, zero := [.undef] } := rfl
theorem ty181 : ty 181 = { sz := 1, bytes := 8, zero := [.undef] } := rfl
theorem ty183 : ty 183 = { sz := 1, bytes := 8, zero := [.undef] } := rfl
theorem ty184 : ty 184 = { sz := 3, agg := true, offs := [0, 1, 2], fsz := [1, 1, 1], fagg := [false, false, false], eqi := true, bytes := 24, zero := [.int .i64 0, .int .i64 0, .int .i64 0] } := rfl
theorem ty185 : ty 185 = { sz := 3, agg := true, offs := [0, 1, 2], fsz := [1, 1, 1], fagg := [false, false, false], eqi := true, bytes := 24, zero := [.int .i64 0, .int .i64 0, .int .i64 0] } := rfl
theorem ty186 : ty 186 = { sz := 1, bytes := 8, zero := [.undef] } := rfl
theorem ty187 : ty 187 = { sz := 1, bytes := 8, zero := [.undef] } := rfl
theorem ty188 : ty 188 = { sz := 7, agg := true, offs := [0, 1, 2, 3], fsz := [1, 1, 1, 4], fagg := [false, false, false, true], bytes := 72, zero := [.int .i64 0, .int .i64 0, .int .i64 0, .int .i64 0, .int .i64 0, .int .i64 0, .nil] } := rfl
theorem ty189 : ty 189 = { sz := 7, agg := true, offs := [0, 1, 2, 3], fsz := [1, 1, 1, 4], fagg := [false, false, false, true], bytes := 72, zero := [.int .i64 0, .int .i64 0, .int .i64 0, .int .i64 0, .int .i64 0, .int .i64 0, .nil] } := rfl
theorem ty190 : ty 190 = { sz := 1, bytes := 8, zero := [.undef] } := rfl
theorem ty191 : ty 191 = { sz := 1, bytes := 8, zero := [.undef] } := rfl
theorem ty192 : ty 192 = { sz := 3, agg := true, offs := [0, 1, 2], fsz := [1, 1, 1], fagg := [false, false, false], bytes := 40, zero := [.nil, .int .i64 0, .int .i64 0] } := rfl
theorem ty193 : ty 193 = { sz := 3, agg := true, offs := [0, 1, 2], fsz := [1, 1, 1], fagg := [false, false, false], bytes := 40, zero := [.nil, .int .i64 0, .int .i64 0] } := rfl
theorem ty194 : ty 194 = { sz := 1, bytes := 8, zero := [.undef] } := rfl
theorem ty195 : ty 195 = { sz := 1, bytes := 8, zero := [.undef] } := rfl
theorem ty196 : ty 196 = { sz := 1, bytes := 8, zero := [.undef] } := rfl
theorem ty197 : ty 197 = { sz := 1, bytes := 8, zero := [.undef] } := rfl
theorem ty199 : ty 199 = { sz := 1, bytes := 8, zero := [.undef] } := rfl
theorem ty200 : ty 200 = { sz := 1, bytes := 8, zero := [.undef] } := rfl
theorem ty201 : ty 201 = { sz := 1, bytes := 8, zero := [.undef] } := rfl
theorem ty202 : ty 202 = { sz := 1, bytes := 8, zero := [.undef] } := rfl
theorem ty203 : ty 203 = { sz := 1, bytes := 8, zero := [.undef] } := rfl
theorem ty204 : ty 204 = { sz := 1, bytes := 8, zero := [.undef] } := rfl
theorem ty205 : ty 205 = { sz := 1, bytes := 8, zero := [.undef] } := rfl
theorem ty206 : ty 206 = { sz := 1, bytes := 8, zero := [.undef] } := rfl
theorem ty207 : ty 207 = { sz := 1, bytes := 8, zero := [.undef] } := rfl
theorem ty208 : ty 208 = { sz := 1, bytes := 8, zero := [.undef] } := rfl
theorem ty209 : ty 209 = { sz := 1, bytes := 8, zero := [.undef] } := rfl
theorem ty210 : ty 210 = { sz := 1, bytes := 8, zero := [.undef] } := rfl
theorem ty211 : ty 211 = { sz := 1, bytes := 8, zero := [.undef] } := rfl
theorem ty212 : ty 212 = { sz := 1, bytes := 8, zero := [.undef] } := rfl
theorem ty213 : ty 213 = { sz := 1, bytes := 8, zero := [.undef] } := rfl
theorem ty214 : ty 214 = { sz := 1, bytes := 8, zero := [.undef] } := rfl
theorem ty215 : ty 215 = { sz := 1, bytes := 8, zero := [.undef] } := rfl
theorem ty216 : ty 216 = { sz := 1, bytes := 8, zero := [.undef] } := rfl
theorem ty217 : ty 217 = { sz := 1, bytes := 8, zero := [.undef] } := rfl
theorem ty218 : ty 218 = { sz := 1, bytes := 8, zero := [.undef] } := rfl
theorem ty219 : ty 219 = { sz := 1, bytes := 8, zero := [.undef] } := rfl
theorem ty220 : ty 220 = { sz := 1, ik := some .u64, bytes := 8, zero := [.int .u64 0] } := rfl
theorem ty221 : ty 221 = { sz := 1, bytes := 8, zero := [.undef] } := rfl
theorem ty222 : ty 222 = { sz := 1, bytes := 8, zero := [.undef] } := rfl
theorem ty223 : ty 223 = { sz := 1, bytes := 8, zero := [.undef] } := rfl
theorem ty224 : ty 224 = { sz := 1, bytes := 8, zero := [.undef] } := rfl
theorem ty225 : ty 225 = { sz := 1, bytes := 8, zero := [.undef] } := rfl
theorem ty226 : ty 226 = { sz := 3, agg := true, offs := [0, 1, 2], fsz := [1, 1, 1], fagg := [false, false, false], eqi := true, bytes := 24, zero := [.int .i64 0, .int .i64 0, .int .i64 0] } := rfl
theorem ty227 : ty 227 = { sz := 1, bytes := 8, zero := [.undef] } := rfl
theorem ty228 : ty 228 = { sz := 1, bytes := 8, zero := [.undef] } := rfl
theorem ty229 : ty 229 = { sz := 1, bytes := 8, zero := [.undef] } := rfl
theorem ty230 : ty 230 = { sz := 1, bytes := 8, zero := [.undef] } := rfl
theorem ty231 : ty 231 = { sz := 1, bytes := 8, zero := [.undef] } := rfl
theorem ty232 : ty 232 = { sz := 6, agg := true, elem := 4, alen := some 6, bytes := 6, zero := [.bool false, .bool false, .bool false, .bool false, .bool false, .bool false] } := rfl
theorem ty233 : ty 233 = { sz := 1, bytes := 8, zero := [.undef] } := rfl
theorem ty234 : ty 234 = { sz := 1, bytes := 8, zero := [.undef] } := rfl
theorem ty235 : ty 235 = { sz := 1, bytes := 8, zero := [.undef] } := rfl
theorem ty236 : ty 236 = { sz := 1, bytes := 8, zero := [.undef] } := rfl
theorem ty237 : ty 237 = { sz := 1, ik := some .i64, bytes := 8, zero := [.int .i64 0] } := rfl
theorem ty239 : ty 239 = { sz := 1, bytes := 8, zero := [.undef] } := rfl
theorem ty240 : ty 240 = { sz := 1, bytes := 8, zero := [.undef] } := rfl
theorem ty241 : ty 241 = { sz := 1, bytes := 8, zero := [.undef] } := rfl
theorem ty243 : ty 243 = { sz := 1, bytes := 8, zero := [.undef] } := rfl
theorem ty244 : ty 244 = { sz := 1, bytes := 8, zero := [.undef] } := rfl
theorem ty245 : ty 245 = { sz := 1, ik := some .u32, bytes := 4, zero := [.int .u32 0] } := rfl
theorem ty246 : ty 246 = { sz := 1, bytes := 8, zero := [.undef] } := rfl
theorem ty247 : ty 247 = { sz := 1, ik := some .u64, bytes := 8, zero := [.int .u64 0] } := rfl
theorem ty248 : ty 248 = { sz := 1, ik := some .u64, bytes := 8, zero := [.int .u64 0] } := rfl
theorem ty249 : ty 249 = { sz := 1, bytes := 8, zero := [.undef] } := rfl
theorem ty250 : ty 250 = { sz := 1, bytes := 8, zero := [.undef] } := rfl
theorem ty251 : ty 251 = { sz := 1, bytes := 8, zero := [.undef] } := rfl
theorem ty252 : ty 252 = { sz := 1, bytes := 8, zero := [.undef] } := rfl
theorem ty253 : ty 253 = { sz := 1, bytes := 8, zero := [.undef] } := rfl
theorem ty254 : ty 254 = { sz := 1, bytes := 8, zero := [.undef] } := rfl
theorem ty256 : ty 256 = { sz := 1, bytes := 8, zero := [.undef] } := rfl
theorem ty257 : ty 257 = { sz := 1, bytes := 8, zero := [.undef] } := rfl
theorem ty258 : ty 258 = { sz := 4, agg := true, offs := [0, 1, 2, 3], fsz := [1, 1, 1, 1], fagg := [false, false, false, false], bytes := 40, zero := [.undef, .undef, .undef, .str ByteArray.empty] } := rfl
theorem ty259 : ty 259 = { sz := 4, agg := true, offs := [0, 1, 2, 3], fsz := [1, 1, 1, 1], fagg := [false, false, false, false], bytes := 40, zero := [.undef, .undef, .undef, .str ByteArray.empty] } := rfl
theorem ty263 : ty 263 = { sz := 1, bytes := 8, zero := [.undef] } := rfl
theorem ty264 : ty 264 = { sz := 1, ik := some .u8, bytes := 1, zero := [.int .u8 0] } := rfl
theorem ty265 : ty 265 = { sz := 1, ik := some .u8, bytes := 1, zero := [.int .u8 0] } := rfl
theorem ty266 : ty 266 = { sz := 1, bytes := 8, zero := [.undef] } := rfl
theorem ty267 : ty 267 = { sz := 1, bytes := 8, zero := [.undef] } := rfl
theorem ty268 : ty 268 = { sz := 1, ik := some .i32, bytes := 4, zero := [.int .i32 0] } := rfl
theorem ty269 : ty 269 = { sz := 1, ik := some .i32, bytes := 4, zero := [.int .i32 0] } := rfl
theorem ty270 : ty 270 = { sz := 11, agg := true, offs := [0, 1, 2, 3, 4, 5, 6, 7, 8, 9, 10], fsz := [1, 1, 1, 1, 1, 1, 1, 1, 1, 1, 1], fagg := [false, false, false, false, false, false, false, false, false, false, false], bytes := 48, zero := [.int .u64 0, .int .u64 0, .int .u32 0, .int .u8 0, .int .u8 0, .int .u8 0, .int .u8 0, .undef, .undef, .int .i32 0, .int .i32 0] } := rfl
theorem ty271 : ty 271 = { sz := 11, agg := true, offs := [0, 1, 2, 3, 4, 5, 6, 7, 8, 9, 10], fsz := [1, 1, 1, 1, 1, 1, 1, 1, 1, 1, 1], fagg := [false, false, false, false, false, false, false, false, false, false, false], bytes := 48, zero := [.int .u64 0, .int .u64 0, .int .u32 0, .int .u8 0, .int .u8 0, .int .u8 0, .int .u8 0, .undef, .undef, .int .i32 0, .int .i32 0] } := rfl
def live : FuncId → Nat → List Nat
  | 4, 17 => [0, 3, 4, 5, 6, 7, 8, 9, 10, 11, 12]
  | 4, 12 => [0, 3, 4, 5, 6, 7, 8, 9, 10]
  | 4, 9 => [0, 3, 4, 5, 6, 7, 8, 9]
  | 5, 17 => [10, 11, 12, 13, 14, 15, 16]
  | 7, 10 => [3, 4, 5, 6, 7, 8, 9, 10]
  | 18, 10 => [0, 1, 6, 7, 9, 11, 12]
  | 18, 7 => [0, 1, 6, 7, 9, 11]
  | 18, 3 => [0, 1, 6, 7, 9, 10]
  | 19, 3 => [0, 3, 4]
  | 20, 3 => [0, 3, 4]
  | 23, 9 => [0, 1, 6, 7, 9, 11, 12]
  | 23, 0 => [0, 1, 6, 7, 9]
  | 23, 3 => [0, 1, 6, 7, 9, 16, 17]
  | 24, 4 => [0, 1, 5]
  | 25, 4 => [0, 1, 5]
  | 26, 4 => [0, 1, 5]
  | 28, 2 => [0, 1, 5]
  | 29, 2 => [0, 1, 5]
  | 31, 2 => [0, 1, 5]
  | 32, 2 => [0, 1, 5]
  | 35, 3 => [0, 1, 7, 9, 14, 15, 16]
  | 36, 6 => [1, 3, 4, 5, 10, 11, 12, 18, 19, 20]
  | 36, 3 => [1, 3, 10, 11, 12]
  | 37, 4 => [0, 1, 5]
  | 38, 3 => [0, 1, 6, 7, 9, 10]
  | 39, 4 => [2, 4, 5, 6]
  | 40, 8 => [2, 5, 6, 7, 23]
  | 40, 5 => [2, 5, 23]
  | 43, 3 => [1, 4, 5, 13, 14, 15]
  | 45, 15 => [2, 3, 4, 5, 13, 61, 62]
  | 45, 7 => [2, 3, 4, 5, 13, 41, 42, 43]
  | 48, 3 => [1, 5, 9, 10, 11]
  | 49, 3 => [7, 9, 10, 16, 17, 18]
  | 53, 5 => [0, 1, 4, 7, 8, 11, 12]
  | 56, 5 => [0, 1, 4, 7, 8, 11, 12]
  | 62, 2 => [1, 3]
  | 65, 2 => [1, 2, 3, 4, 9]
  | 66, 3 => [0, 3, 4]
  | 68, 4 => [0, 1, 5]
  | 70, 5 => [0, 1, 6, 7, 9, 10]
  | 72, 3 => [0, 1, 6, 7, 9, 14, 15, 16]
  | 74, 5 => [6, 9, 10]
  | 75, 7 => [1, 2, 3, 6, 8, 9, 28, 29]
  | 76, 3 => [1, 2, 7, 12, 13, 14]
  | 77, 2 => [1, 6, 7, 8]
  | 80, 3 => [0, 3, 4]
  | 84, 5 => [0, 1, 5]
  | 85, 3 => [0, 1, 5, 6]
  | 88, 3 => [0, 3, 4]
  | 89, 3 => [1, 5, 9, 10, 11]
  | 92, 4 => [0, 1, 5]
  | 93, 2 => [0, 1, 5]
  | 94, 3 => [0, 3, 4]
  | 95, 5 => [0, 4, 5, 6, 7, 8]
  | 96, 3 => [0, 2, 3, 4]
  | 98, 7 => [2, 3, 5, 25, 26]
  | 105, 3 => [1, 2, 3, 4]
  | 107, 5 => [2, 3, 4, 5, 9, 25, 26]
  | 110, 3 => [2, 5, 8, 9, 10]
  | 111, 3 => [3, 7, 8, 9]
  | 112, 3 => [1, 2, 3, 4]
  | 115, 4 => [1, 28, 29, 30]
  | 116, 3 => [1, 5, 8, 9]
  | 117, 3 => [1, 2, 3, 4, 5, 11, 16, 17, 18]
  | 127, 3 => [2, 3, 14, 15, 16]
  | 128, 3 => [3, 7, 8, 9]
  | 131, 5 => [0, 1, 5]
  | 134, 3 => [0, 3, 4]
  | 135, 4 => [0, 1, 5]
  | 136, 8 => [0, 2, 3]
  | 149, 4 => [1, 2, 5]
  | 154, 4 => [2, 3, 31, 32, 33]
  | 155, 3 => [0, 1, 5, 6]
  | 156, 2 => [0, 1, 5]
  | 160, 2 => [0, 1, 5]
  | 161, 3 => [0, 3, 4]
  | 162, 3 => [0, 3, 4]
  | 166, 6 => [0, 3, 6, 7, 8]
  | 181, 3 => [1, 2, 3, 4, 11, 14, 15, 16]
  | 182, 2 => [0, 1, 7, 8]
  | 183, 2 => [0, 1, 7, 8]
  | 189, 2 => [0, 1, 7, 8]
  | 191, 2 => [0, 1, 7, 8]
  | 194, 2 => [0, 1, 2, 3, 4, 5, 13]
  | 195, 3 => [0, 1, 2, 3, 4, 11, 12]
  | 196, 8 => [1, 3, 4, 5]
  | 196, 2 => [1, 3]
  | 197, 3 => [0, 3, 4]
  | 198, 2 => [1, 2, 5]
  | 199, 4 => [0, 1, 5]
  | 202, 2 => [0, 3]
  | 209, 3 => [1, 2, 5]
  | 210, 4 => [1, 3]
  | 211, 4 => [1, 2, 15, 16, 17]
  | 212, 3 => [0, 2, 3, 4, 11, 15, 16, 17]
  | 213, 2 => [0, 1, 7, 8]
  | 219, 13 => [11, 15, 16]
  | 219, 8 => [0, 1, 2, 3, 4, 11, 12, 13, 14]
  | 219, 3 => [0, 1, 2, 3, 4, 11, 12]
  | 224, 2 => [0, 3, 7, 8]
  | 226, 5 => [1, 5, 15, 16]
  | 228, 9 => [0, 3, 4, 5]
  | 228, 4 => [0, 3]
  | 230, 15 => [5, 6, 9]
  | 230, 10 => [0, 5, 6, 7, 8]
  | 230, 7 => [0, 5, 6, 7]
  | 235, 7 => [0, 4, 5, 6, 7, 21, 22, 23]
  | 235, 3 => [0, 4, 5, 6]
  | 236, 0 => [0, 1, 2, 3, 8, 9]
  | 239, 4 => [0, 1, 2, 6, 7]
  | 239, 1 => [0, 1, 2, 6]
  | 240, 8 => [0, 6, 7, 10]
  | 240, 4 => [0, 6, 7, 8, 9]
  | 241, 5 => [0, 1, 6, 7, 8, 9]
  | 243, 2 => [0, 6, 7]
  | 244, 20 => [0, 1, 2, 7, 8, 10]
  | 244, 14 => [0, 1, 2, 7, 8, 9]
  | 244, 5 => [0, 1, 2, 7, 8]
  | 244, 3 => [0, 1, 2, 7, 8]
  | 246, 5 => [0, 1, 9, 10]
  | 246, 3 => [0, 1, 9, 10]
  | 246, 0 => [0, 1, 9, 10]
  | 247, 15 => [0, 1, 10, 11]
  | 247, 13 => [0, 1, 10, 11]
  | 247, 0 => [0, 1, 10, 11]
  | 247, 5 => [0, 1, 10, 11]
  | 247, 3 => [0, 1, 10, 11]
  | 250, 0 => [0, 2, 3, 8]
  | _, _ => []
theorem live4_17 : live 4 17 = [0, 3, 4, 5, 6, 7, 8, 9, 10, 11, 12] := rfl
theorem live4_12 : live 4 12 = [0, 3, 4, 5, 6, 7, 8, 9, 10] := rfl
theorem live4_9 : live 4 9 = [0, 3, 4, 5, 6, 7, 8, 9] := rfl
theorem live5_17 : live 5 17 = [10, 11, 12, 13, 14, 15, 16] := rfl
theorem live7_10 : live 7 10 = [3, 4, 5, 6, 7, 8, 9, 10] := rfl
theorem live18_10 : live 18 10 = [0, 1, 6, 7, 9, 11, 12] := rfl
theorem live18_7 : live 18 7 = [0, 1, 6, 7, 9, 11] := rfl
theorem live18_3 : live 18 3 = [0, 1, 6, 7, 9, 10] := rfl
theorem live19_3 : live 19 3 = [0, 3, 4] := rfl
theorem live20_3 : live 20 3 = [0, 3, 4] := rfl
theorem live23_9 : live 23 9 = [0, 1, 6, 7, 9, 11, 12] := rfl
theorem live23_0 : live 23 0 = [0, 1, 6, 7, 9] := rfl
theorem live23_3 : live 23 3 = [0, 1, 6, 7, 9, 16, 17] := rfl
theorem live24_4 : live 24 4 = [0, 1, 5] := rfl
theorem live25_4 : live 25 4 = [0, 1, 5] := rfl
theorem live26_4 : live 26 4 = [0, 1, 5] := rfl
theorem live28_2 : live 28 2 = [0, 1, 5] := rfl
theorem live29_2 : live 29 2 = [0, 1, 5] := rfl
theorem live31_2 : live 31 2 = [0, 1, 5] := rfl
theorem live32_2 : live 32 2 = [0, 1, 5] := rfl
theorem live35_3 : live 35 3 = [0, 1, 7, 9, 14, 15, 16] := rfl
theorem live36_6 : live 36 6 = [1, 3, 4, 5, 10, 11, 12, 18, 19, 20] := rfl
theorem live36_3 : live 36 3 = [1, 3, 10, 11, 12] := rfl
theorem live37_4 : live 37 4 = [0, 1, 5] := rfl
theorem live38_3 : live 38 3 = [0, 1, 6, 7, 9, 10] := rfl
theorem live39_4 : live 39 4 = [2, 4, 5, 6] := rfl
theorem live40_8 : live 40 8 = [2, 5, 6, 7, 23] := rfl
theorem live40_5 : live 40 5 = [2, 5, 23] := rfl
theorem live43_3 : live 43 3 = [1, 4, 5, 13, 14, 15] := rfl
theorem live45_15 : live 45 15 = [2, 3, 4, 5, 13, 61, 62] := rfl
theorem live45_7 : live 45 7 = [2, 3, 4, 5, 13, 41, 42, 43] := rfl
theorem live48_3 : live 48 3 = [1, 5, 9, 10, 11] := rfl
theorem live49_3 : live 49 3 = [7, 9, 10, 16, 17, 18] := rfl
theorem live53_5 : live 53 5 = [0, 1, 4, 7, 8, 11, 12] := rfl
theorem live56_5 : live 56 5 = [0, 1, 4, 7, 8, 11, 12] := rfl
theorem live62_2 : live 62 2 = [1, 3] := rfl
theorem live65_2 : live 65 2 = [1, 2, 3, 4, 9] := rfl
theorem live66_3 : live 66 3 = [0, 3, 4] := rfl
theorem live68_4 : live 68 4 = [0, 1, 5] := rfl
theorem live70_5 : live 70 5 = [0, 1, 6, 7, 9, 10] := rfl
theorem live72_3 : live 72 3 = [0, 1, 6, 7, 9, 14, 15, 16] := rfl
theorem live74_5 : live 74 5 = [6, 9, 10] := rfl
theorem live75_7 : live 75 7 = [1, 2, 3, 6, 8, 9, 28, 29] := rfl
theorem live76_3 : live 76 3 = [1, 2, 7, 12, 13, 14] := rfl
theorem live77_2 : live 77 2 = [1, 6, 7, 8] := rfl
theorem live80_3 : live 80 3 = [0, 3, 4] := rfl
theorem live84_5 : live 84 5 = [0, 1, 5] := rfl
theorem live85_3 : live 85 3 = [0, 1, 5, 6] := rfl
theorem live88_3 : live 88 3 = [0, 3, 4] := rfl
theorem live89_3 : live 89 3 = [1, 5, 9, 10, 11] := rfl
theorem live92_4 : live 92 4 = [0, 1, 5] := rfl
theorem live93_2 : live 93 2 = [0, 1, 5] := rfl
theorem live94_3 : live 94 3 = [0, 3, 4] := rfl
theorem live95_5 : live 95 5 = [0, 4, 5, 6, 7, 8] := rfl
theorem live96_3 : live 96 3 = [0, 2, 3, 4] := rfl
theorem live98_7 : live 98 7 = [2, 3, 5, 25, 26] := rfl
theorem live105_3 : live 105 3 = [1, 2, 3, 4] := rfl
theorem live107_5 : live 107 5 = [2, 3, 4, 5, 9, 25, 26] := rfl
theorem live110_3 : live 110 3 = [2, 5, 8, 9, 10] := rfl
theorem live111_3 : live 111 3 = [3, 7, 8, 9] := rfl
theorem live112_3 : live 112 3 = [1, 2, 3, 4] := rfl
theorem live115_4 : live 115 4 = [1, 28, 29, 30] := rfl
theorem live116_3 : live 116 3 = [1, 5, 8, 9] := rfl
theorem live117_3 : live 117 3 = [1, 2, 3, 4, 5, 11, 16, 17, 18] := rfl
theorem live127_3 : live 127 3 = [2, 3, 14, 15, 16] := rfl
theorem live128_3 : live 128 3 = [3, 7, 8, 9] := rfl
theorem live131_5 : live 131 5 = [0, 1, 5] := rfl
theorem live134_3 : live 134 3 = [0, 3, 4] := rfl
theorem live135_4 : live 135 4 = [0, 1, 5] := rfl
theorem live136_8 : live 136 8 = [0, 2, 3] := rfl
theorem live149_4 : live 149 4 = [1, 2, 5] := rfl
theorem live154_4 : live 154 4 = [2, 3, 31, 32, 33] := rfl
theorem live155_3 : live 155 3 = [0, 1, 5, 6] := rfl
theorem live156_2 : live 156 2 = [0, 1, 5] := rfl
theorem live160_2 : live 160 2 = [0, 1, 5] := rfl
theorem live161_3 : live 161 3 = [0, 3, 4] := rfl
theorem live162_3 : live 162 3 = [0, 3, 4] := rfl
theorem live166_6 : live 166 6 = [0, 3, 6, 7, 8] := rfl
theorem live181_3 : live 181 3 = [1, 2, 3, 4, 11, 14, 15, 16] := rfl
theorem live182_2 : live 182 2 = [0, 1, 7, 8] := rfl
theorem live183_2 : live 183 2 = [0, 1, 7, 8] := rfl
theorem live189_2 : live 189 2 = [0, 1, 7, 8] := rfl
theorem live191_2 : live 191 2 = [0, 1, 7, 8] := rfl
theorem live194_2 : live 194 2 = [0, 1, 2, 3, 4, 5, 13] := rfl
theorem live195_3 : live 195 3 = [0, 1, 2, 3, 4, 11, 12] := rfl
theorem live196_8 : live 196 8 = [1, 3, 4, 5] := rfl
theorem live196_2 : live 196 2 = [1, 3] := rfl
theorem live197_3 : live 197 3 = [0, 3, 4] := rfl
theorem live198_2 : live 198 2 = [1, 2, 5] := rfl
theorem live199_4 : live 199 4 = [0, 1, 5] := rfl
theorem live202_2 : live 202 2 = [0, 3] := rfl
theorem live209_3 : live 209 3 = [1, 2, 5] := rfl
theorem live210_4 : live 210 4 = [1, 3] := rfl
theorem live211_4 : live 211 4 = [1, 2, 15, 16, 17] := rfl
theorem live212_3 : live 212 3 = [0, 2, 3, 4, 11, 15, 16, 17] := rfl
theorem live213_2 : live 213 2 = [0, 1, 7, 8] := rfl
theorem live219_13 : live 219 13 = [11, 15, 16] := rfl
theorem live219_8 : live 219 8 = [0, 1, 2, 3, 4, 11, 12, 13, 14] := rfl
theorem live219_3 : live 219 3 = [0, 1, 2, 3, 4, 11, 12] := rfl
theorem live224_2 : live 224 2 = [0, 3, 7, 8] := rfl
theorem live226_5 : live 226 5 = [1, 5, 15, 16] := rfl
theorem live228_9 : live 228 9 = [0, 3, 4, 5] := rfl
theorem live228_4 : live 228 4 = [0, 3] := rfl
theorem live230_15 : live 230 15 = [5, 6, 9] := rfl
theorem live230_10 : live 230 10 = [0, 5, 6, 7, 8] := rfl
theorem live230_7 : live 230 7 = [0, 5, 6, 7] := rfl
theorem live235_7 : live 235 7 = [0, 4, 5, 6, 7, 21, 22, 23] := rfl
theorem live235_3 : live 235 3 = [0, 4, 5, 6] := rfl
theorem live236_0 : live 236 0 = [0, 1, 2, 3, 8, 9] := rfl
theorem live239_4 : live 239 4 = [0, 1, 2, 6, 7] := rfl
theorem live239_1 : live 239 1 = [0, 1, 2, 6] := rfl
theorem live240_8 : live 240 8 = [0, 6, 7, 10] := rfl
theorem live240_4 : live 240 4 = [0, 6, 7, 8, 9] := rfl
theorem live241_5 : live 241 5 = [0, 1, 6, 7, 8, 9] := rfl
theorem live243_2 : live 243 2 = [0, 6, 7] := rfl
theorem live244_20 : live 244 20 = [0, 1, 2, 7, 8, 10] := rfl
theorem live244_14 : live 244 14 = [0, 1, 2, 7, 8, 9] := rfl
theorem live244_5 : live 244 5 = [0, 1, 2, 7, 8] := rfl
theorem live244_3 : live 244 3 = [0, 1, 2, 7, 8] := rfl
theorem live246_5 : live 246 5 = [0, 1, 9, 10] := rfl
theorem live246_3 : live 246 3 = [0, 1, 9, 10] := rfl
theorem live246_0 : live 246 0 = [0, 1, 9, 10] := rfl
theorem live247_15 : live 247 15 = [0, 1, 10, 11] := rfl
theorem live247_13 : live 247 13 = [0, 1, 10, 11] := rfl
theorem live247_0 : live 247 0 = [0, 1, 10, 11] := rfl
theorem live247_5 : live 247 5 = [0, 1, 10, 11] := rfl
theorem live247_3 : live 247 3 = [0, 1, 10, 11] := rfl
theorem live250_0 : live 250 0 = [0, 2, 3, 8] := rfl
def io : FuncId → List Nat
  | 28 => [0]
  | 29 => [0]
  | 31 => [0]
  | 93 => [0]
  | 95 => [0]
  | 96 => [0]
  | 101 => [0]
  | 102 => [0]
  | 103 => [0]
  | 104 => [0]
  | 114 => [0]
  | 115 => [1]
  | 118 => [0]
  | 130 => [0]
  | 136 => [0]
  | 137 => [0]
  | 160 => [0]
  | 161 => [0]
  | 162 => [0]
  | 163 => [0]
  | 164 => [0]
  | 170 => [0]
  | 171 => [0]
  | 187 => [0]
  | 188 => [0]
  | 200 => [0]
  | 227 => [0]
  | 228 => [0]
  | 252 => [0]
  | 253 => [2]
  | 254 => [4]
  | 256 => [3]
  | 265 => [0]
  | 266 => [0]
  | 267 => [0]
  | 268 => [0]
  | 269 => [0]
  | _ => []
def keep : FuncId → Nat
  | 28 => 64
  | 29 => 64
  | 31 => 64
  | 93 => 64
  | 95 => 64
  | 96 => 64
  | 101 => 64
  | 102 => 64
  | 103 => 64
  | 104 => 64
  | 114 => 64
  | 115 => 128
  | 118 => 64
  | 130 => 64
  | 136 => 64
  | 137 => 64
  | 160 => 64
  | 161 => 64
  | 162 => 64
  | 163 => 64
  | 164 => 64
  | 170 => 64
  | 171 => 64
  | 187 => 64
  | 188 => 64
  | 200 => 64
  | 227 => 64
  | 228 => 64
  | 252 => 64
  | 253 => 192
  | 254 => 320
  | 256 => 256
  | 265 => 64
  | 266 => 64
  | 267 => 64
  | 268 => 64
  | 269 => 64
  | _ => 0
def own : FuncId → Nat → Bool
  | _, _ => false
def order : FuncId → Nat → Option (List Nat)
  | _, _ => none
def oks : List FuncId := [2, 3, 4, 5, 6, 7, 8, 9, 10, 11, 12, 13, 14, 15, 16, 17, 18, 19, 20, 21, 22, 23, 24, 25, 26, 27, 28, 29, 30, 31, 32, 33, 35, 36, 37, 38, 40, 41, 42, 43, 45, 47, 48, 49, 50, 51, 53, 54, 55, 56, 57, 58, 60, 61, 62, 63, 64, 65, 66, 67, 68, 69, 70, 71, 72, 73, 74, 75, 76, 77, 78, 79, 80, 81, 82, 83, 84, 85, 86, 87, 88, 89, 90, 91, 92, 93, 94, 97, 98, 99, 100, 101, 102, 104, 105, 106, 107, 108, 109, 110, 111, 112, 114, 115, 116, 117, 119, 120, 121, 122, 123, 124, 125, 126, 127, 128, 129, 130, 131, 132, 133, 134, 135, 137, 138, 139, 140, 141, 142, 143, 144, 145, 146, 147, 148, 149, 150, 151, 152, 153, 154, 155, 156, 157, 158, 159, 160, 161, 162, 163, 165, 166, 167, 168, 169, 170, 171, 172, 173, 174, 175, 176, 177, 178, 179, 180, 181, 182, 183, 184, 185, 186, 187, 188, 189, 190, 191, 192, 193, 194, 195, 196, 197, 198, 199, 201, 202, 203, 204, 205, 206, 207, 208, 209, 210, 211, 212, 213, 214, 215, 216, 217, 218, 219, 220, 221, 222, 223, 224, 225, 226, 229, 230, 231, 232, 233, 234, 235, 236, 237, 238, 242, 245, 248, 249, 251, 252, 253, 254, 255, 256]
def goods : List TypeId := [1, 2, 3, 4, 5, 6, 7, 8, 9, 10, 11, 12, 13, 14, 15, 16, 17, 18, 19, 21, 22, 23, 24, 25, 26, 27, 28, 29, 30, 31, 32, 33, 34, 35, 36, 37, 38, 39, 40, 41, 42, 43, 44, 45, 46, 47, 48, 49, 50, 51, 52, 53, 54, 56, 57, 58, 59, 60, 61, 62, 63, 64, 65, 67, 68, 69, 70, 71, 73, 74, 76, 77, 78, 79, 80, 81, 83, 84, 85, 86, 87, 88, 89, 90, 91, 92, 93, 94, 95, 96, 97, 98, 99, 100, 101, 102, 103, 104, 105, 106, 107, 108, 109, 110, 111, 112, 113, 114, 115, 116, 118, 119, 120, 121, 122, 123, 124, 125, 126, 127, 128, 129, 130, 131, 132, 133, 134, 135, 136, 137, 138, 139, 140, 141, 142, 143, 145, 146, 147, 148, 149, 150, 151, 152, 153, 154, 155, 156, 157, 158, 159, 160, 161, 162, 163, 164, 165, 166, 167, 168, 169, 170, 171, 172, 173, 174, 175, 176, 177, 178, 179, 180, 181, 183, 184, 185, 186, 187, 188, 189, 190, 191, 192, 193, 194, 195, 196, 197, 199, 200, 201, 202, 203, 204, 205, 206, 207, 208, 209, 210, 211, 212, 213, 214, 215, 216, 217, 218, 219, 220, 221, 222, 223, 224, 225, 226, 227, 228, 229, 230, 231, 232, 233, 234, 235, 236, 237, 239, 240, 241, 243, 244, 245, 246, 247, 248, 249, 250, 251, 252, 253, 254, 256, 257, 258, 259, 263, 264, 265, 266, 267, 268, 269, 270, 271]
def good (t : TypeId) : Bool := goods.contains t
def told : FuncId → List PV → Map (List PV) → Map Blk → Option (List PV × Map (List PV) × Map Blk)
  | 227, [.ref 0 0 n v], [], [(0, B)] => sortB (ty B.e).sz n v B
  | 228, [.ref 0 0 n v], [], [(0, B)] => compactB (ty B.e).sz n v B
  | _, _, _, _ => none
noncomputable def C : Cfg := { P := Tryz.prog, ty, live, ok := fun f => oks.contains f, own, io, pairs := fun _ _ => [], order, glob := fun _ => none, keep, ext := told }
theorem C_P : C.P = Tryz.prog := rfl
theorem C_ty : C.ty = ty := rfl
theorem C_live : C.live = live := rfl
theorem C_io : C.io = io := rfl
theorem C_keep : C.keep = keep := rfl
theorem C_own : C.own = own := rfl
theorem C_order : C.order = order := rfl
theorem K2 (call : Caller) (dir : Bool) (f : FuncId) (d : Tmp) (st : St) (vs : List PV) : callK C call dir f d st 2 vs = (lendAll C st.b st.m vs).bind fun q => (call 2 q [] []).bind fun r => ret C (C.own f d) vs d st r.1 := callK_pure C call f d st dir 2 vs rfl
theorem K3 (call : Caller) (dir : Bool) (f : FuncId) (d : Tmp) (st : St) (vs : List PV) : callK C call dir f d st 3 vs = (lendAll C st.b st.m vs).bind fun q => (call 3 q [] []).bind fun r => ret C (C.own f d) vs d st r.1 := callK_pure C call f d st dir 3 vs rfl
theorem K4 (call : Caller) (dir : Bool) (f : FuncId) (d : Tmp) (st : St) (vs : List PV) : callK C call dir f d st 4 vs = (lendAll C st.b st.m vs).bind fun q => (call 4 q [] []).bind fun r => ret C (C.own f d) vs d st r.1 := callK_pure C call f d st dir 4 vs rfl
theorem K5 (call : Caller) (dir : Bool) (f : FuncId) (d : Tmp) (st : St) (vs : List PV) : callK C call dir f d st 5 vs = (lendAll C st.b st.m vs).bind fun q => (call 5 q [] []).bind fun r => ret C (C.own f d) vs d st r.1 := callK_pure C call f d st dir 5 vs rfl
theorem K6 (call : Caller) (dir : Bool) (f : FuncId) (d : Tmp) (st : St) (vs : List PV) : callK C call dir f d st 6 vs = (lendAll C st.b st.m vs).bind fun q => (call 6 q [] []).bind fun r => ret C (C.own f d) vs d st r.1 := callK_pure C call f d st dir 6 vs rfl
theorem K7 (call : Caller) (dir : Bool) (f : FuncId) (d : Tmp) (st : St) (vs : List PV) : callK C call dir f d st 7 vs = (lendAll C st.b st.m vs).bind fun q => (call 7 q [] []).bind fun r => ret C (C.own f d) vs d st r.1 := callK_pure C call f d st dir 7 vs rfl
theorem K8 (call : Caller) (dir : Bool) (f : FuncId) (d : Tmp) (st : St) (vs : List PV) : callK C call dir f d st 8 vs = (lendAll C st.b st.m vs).bind fun q => (call 8 q [] []).bind fun r => ret C (C.own f d) vs d st r.1 := callK_pure C call f d st dir 8 vs rfl
theorem K9 (call : Caller) (dir : Bool) (f : FuncId) (d : Tmp) (st : St) (vs : List PV) : callK C call dir f d st 9 vs = (lendAll C st.b st.m vs).bind fun q => (call 9 q [] []).bind fun r => ret C (C.own f d) vs d st r.1 := callK_pure C call f d st dir 9 vs rfl
theorem K10 (call : Caller) (dir : Bool) (f : FuncId) (d : Tmp) (st : St) (vs : List PV) : callK C call dir f d st 10 vs = (lendAll C st.b st.m vs).bind fun q => (call 10 q [] []).bind fun r => ret C (C.own f d) vs d st r.1 := callK_pure C call f d st dir 10 vs rfl
theorem K11 (call : Caller) (dir : Bool) (f : FuncId) (d : Tmp) (st : St) (vs : List PV) : callK C call dir f d st 11 vs = (lendAll C st.b st.m vs).bind fun q => (call 11 q [] []).bind fun r => ret C (C.own f d) vs d st r.1 := callK_pure C call f d st dir 11 vs rfl
theorem K12 (call : Caller) (dir : Bool) (f : FuncId) (d : Tmp) (st : St) (vs : List PV) : callK C call dir f d st 12 vs = (lendAll C st.b st.m vs).bind fun q => (call 12 q [] []).bind fun r => ret C (C.own f d) vs d st r.1 := callK_pure C call f d st dir 12 vs rfl
theorem K13 (call : Caller) (dir : Bool) (f : FuncId) (d : Tmp) (st : St) (vs : List PV) : callK C call dir f d st 13 vs = (lendAll C st.b st.m vs).bind fun q => (call 13 q [] []).bind fun r => ret C (C.own f d) vs d st r.1 := callK_pure C call f d st dir 13 vs rfl
theorem K14 (call : Caller) (dir : Bool) (f : FuncId) (d : Tmp) (st : St) (vs : List PV) : callK C call dir f d st 14 vs = (lendAll C st.b st.m vs).bind fun q => (call 14 q [] []).bind fun r => ret C (C.own f d) vs d st r.1 := callK_pure C call f d st dir 14 vs rfl
theorem K15 (call : Caller) (dir : Bool) (f : FuncId) (d : Tmp) (st : St) (vs : List PV) : callK C call dir f d st 15 vs = (lendAll C st.b st.m vs).bind fun q => (call 15 q [] []).bind fun r => ret C (C.own f d) vs d st r.1 := callK_pure C call f d st dir 15 vs rfl
theorem K16 (call : Caller) (dir : Bool) (f : FuncId) (d : Tmp) (st : St) (vs : List PV) : callK C call dir f d st 16 vs = (lendAll C st.b st.m vs).bind fun q => (call 16 q [] []).bind fun r => ret C (C.own f d) vs d st r.1 := callK_pure C call f d st dir 16 vs rfl
theorem K17 (call : Caller) (dir : Bool) (f : FuncId) (d : Tmp) (st : St) (vs : List PV) : callK C call dir f d st 17 vs = (lendAll C st.b st.m vs).bind fun q => (call 17 q [] []).bind fun r => ret C (C.own f d) vs d st r.1 := callK_pure C call f d st dir 17 vs rfl
theorem K18 (call : Caller) (dir : Bool) (f : FuncId) (d : Tmp) (st : St) (vs : List PV) : callK C call dir f d st 18 vs = (lendAll C st.b st.m vs).bind fun q => (call 18 q [] []).bind fun r => ret C (C.own f d) vs d st r.1 := callK_pure C call f d st dir 18 vs rfl
theorem K19 (call : Caller) (dir : Bool) (f : FuncId) (d : Tmp) (st : St) (vs : List PV) : callK C call dir f d st 19 vs = (lendAll C st.b st.m vs).bind fun q => (call 19 q [] []).bind fun r => ret C (C.own f d) vs d st r.1 := callK_pure C call f d st dir 19 vs rfl
theorem K20 (call : Caller) (dir : Bool) (f : FuncId) (d : Tmp) (st : St) (vs : List PV) : callK C call dir f d st 20 vs = (lendAll C st.b st.m vs).bind fun q => (call 20 q [] []).bind fun r => ret C (C.own f d) vs d st r.1 := callK_pure C call f d st dir 20 vs rfl
theorem K21 (call : Caller) (dir : Bool) (f : FuncId) (d : Tmp) (st : St) (vs : List PV) : callK C call dir f d st 21 vs = (lendAll C st.b st.m vs).bind fun q => (call 21 q [] []).bind fun r => ret C (C.own f d) vs d st r.1 := callK_pure C call f d st dir 21 vs rfl
theorem K22 (call : Caller) (dir : Bool) (f : FuncId) (d : Tmp) (st : St) (vs : List PV) : callK C call dir f d st 22 vs = (lendAll C st.b st.m vs).bind fun q => (call 22 q [] []).bind fun r => ret C (C.own f d) vs d st r.1 := callK_pure C call f d st dir 22 vs rfl
theorem K23 (call : Caller) (dir : Bool) (f : FuncId) (d : Tmp) (st : St) (vs : List PV) : callK C call dir f d st 23 vs = (lendAll C st.b st.m vs).bind fun q => (call 23 q [] []).bind fun r => ret C (C.own f d) vs d st r.1 := callK_pure C call f d st dir 23 vs rfl
theorem K24 (call : Caller) (dir : Bool) (f : FuncId) (d : Tmp) (st : St) (vs : List PV) : callK C call dir f d st 24 vs = (lendAll C st.b st.m vs).bind fun q => (call 24 q [] []).bind fun r => ret C (C.own f d) vs d st r.1 := callK_pure C call f d st dir 24 vs rfl
theorem K25 (call : Caller) (dir : Bool) (f : FuncId) (d : Tmp) (st : St) (vs : List PV) : callK C call dir f d st 25 vs = (lendAll C st.b st.m vs).bind fun q => (call 25 q [] []).bind fun r => ret C (C.own f d) vs d st r.1 := callK_pure C call f d st dir 25 vs rfl
theorem K26 (call : Caller) (dir : Bool) (f : FuncId) (d : Tmp) (st : St) (vs : List PV) : callK C call dir f d st 26 vs = (lendAll C st.b st.m vs).bind fun q => (call 26 q [] []).bind fun r => ret C (C.own f d) vs d st r.1 := callK_pure C call f d st dir 26 vs rfl
theorem K27 (call : Caller) (dir : Bool) (f : FuncId) (d : Tmp) (st : St) (vs : List PV) : callK C call dir f d st 27 vs = (lendAll C st.b st.m vs).bind fun q => (call 27 q [] []).bind fun r => ret C (C.own f d) vs d st r.1 := callK_pure C call f d st dir 27 vs rfl
theorem K30 (call : Caller) (dir : Bool) (f : FuncId) (d : Tmp) (st : St) (vs : List PV) : callK C call dir f d st 30 vs = (lendAll C st.b st.m vs).bind fun q => (call 30 q [] []).bind fun r => ret C (C.own f d) vs d st r.1 := callK_pure C call f d st dir 30 vs rfl
theorem K32 (call : Caller) (dir : Bool) (f : FuncId) (d : Tmp) (st : St) (vs : List PV) : callK C call dir f d st 32 vs = (lendAll C st.b st.m vs).bind fun q => (call 32 q [] []).bind fun r => ret C (C.own f d) vs d st r.1 := callK_pure C call f d st dir 32 vs rfl
theorem K33 (call : Caller) (dir : Bool) (f : FuncId) (d : Tmp) (st : St) (vs : List PV) : callK C call dir f d st 33 vs = (lendAll C st.b st.m vs).bind fun q => (call 33 q [] []).bind fun r => ret C (C.own f d) vs d st r.1 := callK_pure C call f d st dir 33 vs rfl
theorem K34 (call : Caller) (dir : Bool) (f : FuncId) (d : Tmp) (st : St) (vs : List PV) : callK C call dir f d st 34 vs = (lendAll C st.b st.m vs).bind fun q => (call 34 q [] []).bind fun r => ret C (C.own f d) vs d st r.1 := callK_pure C call f d st dir 34 vs rfl
theorem K35 (call : Caller) (dir : Bool) (f : FuncId) (d : Tmp) (st : St) (vs : List PV) : callK C call dir f d st 35 vs = (lendAll C st.b st.m vs).bind fun q => (call 35 q [] []).bind fun r => ret C (C.own f d) vs d st r.1 := callK_pure C call f d st dir 35 vs rfl
theorem K36 (call : Caller) (dir : Bool) (f : FuncId) (d : Tmp) (st : St) (vs : List PV) : callK C call dir f d st 36 vs = (lendAll C st.b st.m vs).bind fun q => (call 36 q [] []).bind fun r => ret C (C.own f d) vs d st r.1 := callK_pure C call f d st dir 36 vs rfl
theorem K37 (call : Caller) (dir : Bool) (f : FuncId) (d : Tmp) (st : St) (vs : List PV) : callK C call dir f d st 37 vs = (lendAll C st.b st.m vs).bind fun q => (call 37 q [] []).bind fun r => ret C (C.own f d) vs d st r.1 := callK_pure C call f d st dir 37 vs rfl
theorem K38 (call : Caller) (dir : Bool) (f : FuncId) (d : Tmp) (st : St) (vs : List PV) : callK C call dir f d st 38 vs = (lendAll C st.b st.m vs).bind fun q => (call 38 q [] []).bind fun r => ret C (C.own f d) vs d st r.1 := callK_pure C call f d st dir 38 vs rfl
theorem K39 (call : Caller) (dir : Bool) (f : FuncId) (d : Tmp) (st : St) (vs : List PV) : callK C call dir f d st 39 vs = (lendAll C st.b st.m vs).bind fun q => (call 39 q [] []).bind fun r => ret C (C.own f d) vs d st r.1 := callK_pure C call f d st dir 39 vs rfl
theorem K40 (call : Caller) (dir : Bool) (f : FuncId) (d : Tmp) (st : St) (vs : List PV) : callK C call dir f d st 40 vs = (lendAll C st.b st.m vs).bind fun q => (call 40 q [] []).bind fun r => ret C (C.own f d) vs d st r.1 := callK_pure C call f d st dir 40 vs rfl
theorem K41 (call : Caller) (dir : Bool) (f : FuncId) (d : Tmp) (st : St) (vs : List PV) : callK C call dir f d st 41 vs = (lendAll C st.b st.m vs).bind fun q => (call 41 q [] []).bind fun r => ret C (C.own f d) vs d st r.1 := callK_pure C call f d st dir 41 vs rfl
theorem K42 (call : Caller) (dir : Bool) (f : FuncId) (d : Tmp) (st : St) (vs : List PV) : callK C call dir f d st 42 vs = (lendAll C st.b st.m vs).bind fun q => (call 42 q [] []).bind fun r => ret C (C.own f d) vs d st r.1 := callK_pure C call f d st dir 42 vs rfl
theorem K43 (call : Caller) (dir : Bool) (f : FuncId) (d : Tmp) (st : St) (vs : List PV) : callK C call dir f d st 43 vs = (lendAll C st.b st.m vs).bind fun q => (call 43 q [] []).bind fun r => ret C (C.own f d) vs d st r.1 := callK_pure C call f d st dir 43 vs rfl
theorem K44 (call : Caller) (dir : Bool) (f : FuncId) (d : Tmp) (st : St) (vs : List PV) : callK C call dir f d st 44 vs = (lendAll C st.b st.m vs).bind fun q => (call 44 q [] []).bind fun r => ret C (C.own f d) vs d st r.1 := callK_pure C call f d st dir 44 vs rfl
theorem K45 (call : Caller) (dir : Bool) (f : FuncId) (d : Tmp) (st : St) (vs : List PV) : callK C call dir f d st 45 vs = (lendAll C st.b st.m vs).bind fun q => (call 45 q [] []).bind fun r => ret C (C.own f d) vs d st r.1 := callK_pure C call f d st dir 45 vs rfl
theorem K46 (call : Caller) (dir : Bool) (f : FuncId) (d : Tmp) (st : St) (vs : List PV) : callK C call dir f d st 46 vs = (lendAll C st.b st.m vs).bind fun q => (call 46 q [] []).bind fun r => ret C (C.own f d) vs d st r.1 := callK_pure C call f d st dir 46 vs rfl
theorem K47 (call : Caller) (dir : Bool) (f : FuncId) (d : Tmp) (st : St) (vs : List PV) : callK C call dir f d st 47 vs = (lendAll C st.b st.m vs).bind fun q => (call 47 q [] []).bind fun r => ret C (C.own f d) vs d st r.1 := callK_pure C call f d st dir 47 vs rfl
theorem K48 (call : Caller) (dir : Bool) (f : FuncId) (d : Tmp) (st : St) (vs : List PV) : callK C call dir f d st 48 vs = (lendAll C st.b st.m vs).bind fun q => (call 48 q [] []).bind fun r => ret C (C.own f d) vs d st r.1 := callK_pure C call f d st dir 48 vs rfl
theorem K49 (call : Caller) (dir : Bool) (f : FuncId) (d : Tmp) (st : St) (vs : List PV) : callK C call dir f d st 49 vs = (lendAll C st.b st.m vs).bind fun q => (call 49 q [] []).bind fun r => ret C (C.own f d) vs d st r.1 := callK_pure C call f d st dir 49 vs rfl
theorem K50 (call : Caller) (dir : Bool) (f : FuncId) (d : Tmp) (st : St) (vs : List PV) : callK C call dir f d st 50 vs = (lendAll C st.b st.m vs).bind fun q => (call 50 q [] []).bind fun r => ret C (C.own f d) vs d st r.1 := callK_pure C call f d st dir 50 vs rfl
theorem K51 (call : Caller) (dir : Bool) (f : FuncId) (d : Tmp) (st : St) (vs : List PV) : callK C call dir f d st 51 vs = (lendAll C st.b st.m vs).bind fun q => (call 51 q [] []).bind fun r => ret C (C.own f d) vs d st r.1 := callK_pure C call f d st dir 51 vs rfl
theorem K52 (call : Caller) (dir : Bool) (f : FuncId) (d : Tmp) (st : St) (vs : List PV) : callK C call dir f d st 52 vs = (lendAll C st.b st.m vs).bind fun q => (call 52 q [] []).bind fun r => ret C (C.own f d) vs d st r.1 := callK_pure C call f d st dir 52 vs rfl
theorem K53 (call : Caller) (dir : Bool) (f : FuncId) (d : Tmp) (st : St) (vs : List PV) : callK C call dir f d st 53 vs = (lendAll C st.b st.m vs).bind fun q => (call 53 q [] []).bind fun r => ret C (C.own f d) vs d st r.1 := callK_pure C call f d st dir 53 vs rfl
theorem K54 (call : Caller) (dir : Bool) (f : FuncId) (d : Tmp) (st : St) (vs : List PV) : callK C call dir f d st 54 vs = (lendAll C st.b st.m vs).bind fun q => (call 54 q [] []).bind fun r => ret C (C.own f d) vs d st r.1 := callK_pure C call f d st dir 54 vs rfl
theorem K55 (call : Caller) (dir : Bool) (f : FuncId) (d : Tmp) (st : St) (vs : List PV) : callK C call dir f d st 55 vs = (lendAll C st.b st.m vs).bind fun q => (call 55 q [] []).bind fun r => ret C (C.own f d) vs d st r.1 := callK_pure C call f d st dir 55 vs rfl
theorem K56 (call : Caller) (dir : Bool) (f : FuncId) (d : Tmp) (st : St) (vs : List PV) : callK C call dir f d st 56 vs = (lendAll C st.b st.m vs).bind fun q => (call 56 q [] []).bind fun r => ret C (C.own f d) vs d st r.1 := callK_pure C call f d st dir 56 vs rfl
theorem K57 (call : Caller) (dir : Bool) (f : FuncId) (d : Tmp) (st : St) (vs : List PV) : callK C call dir f d st 57 vs = (lendAll C st.b st.m vs).bind fun q => (call 57 q [] []).bind fun r => ret C (C.own f d) vs d st r.1 := callK_pure C call f d st dir 57 vs rfl
theorem K58 (call : Caller) (dir : Bool) (f : FuncId) (d : Tmp) (st : St) (vs : List PV) : callK C call dir f d st 58 vs = (lendAll C st.b st.m vs).bind fun q => (call 58 q [] []).bind fun r => ret C (C.own f d) vs d st r.1 := callK_pure C call f d st dir 58 vs rfl
theorem K59 (call : Caller) (dir : Bool) (f : FuncId) (d : Tmp) (st : St) (vs : List PV) : callK C call dir f d st 59 vs = (lendAll C st.b st.m vs).bind fun q => (call 59 q [] []).bind fun r => ret C (C.own f d) vs d st r.1 := callK_pure C call f d st dir 59 vs rfl
theorem K60 (call : Caller) (dir : Bool) (f : FuncId) (d : Tmp) (st : St) (vs : List PV) : callK C call dir f d st 60 vs = (lendAll C st.b st.m vs).bind fun q => (call 60 q [] []).bind fun r => ret C (C.own f d) vs d st r.1 := callK_pure C call f d st dir 60 vs rfl
theorem K61 (call : Caller) (dir : Bool) (f : FuncId) (d : Tmp) (st : St) (vs : List PV) : callK C call dir f d st 61 vs = (lendAll C st.b st.m vs).bind fun q => (call 61 q [] []).bind fun r => ret C (C.own f d) vs d st r.1 := callK_pure C call f d st dir 61 vs rfl
theorem K62 (call : Caller) (dir : Bool) (f : FuncId) (d : Tmp) (st : St) (vs : List PV) : callK C call dir f d st 62 vs = (lendAll C st.b st.m vs).bind fun q => (call 62 q [] []).bind fun r => ret C (C.own f d) vs d st r.1 := callK_pure C call f d st dir 62 vs rfl
theorem K63 (call : Caller) (dir : Bool) (f : FuncId) (d : Tmp) (st : St) (vs : List PV) : callK C call dir f d st 63 vs = (lendAll C st.b st.m vs).bind fun q => (call 63 q [] []).bind fun r => ret C (C.own f d) vs d st r.1 := callK_pure C call f d st dir 63 vs rfl
theorem K64 (call : Caller) (dir : Bool) (f : FuncId) (d : Tmp) (st : St) (vs : List PV) : callK C call dir f d st 64 vs = (lendAll C st.b st.m vs).bind fun q => (call 64 q [] []).bind fun r => ret C (C.own f d) vs d st r.1 := callK_pure C call f d st dir 64 vs rfl
theorem K65 (call : Caller) (dir : Bool) (f : FuncId) (d : Tmp) (st : St) (vs : List PV) : callK C call dir f d st 65 vs = (lendAll C st.b st.m vs).bind fun q => (call 65 q [] []).bind fun r => ret C (C.own f d) vs d st r.1 := callK_pure C call f d st dir 65 vs rfl
theorem K66 (call : Caller) (dir : Bool) (f : FuncId) (d : Tmp) (st : St) (vs : List PV) : callK C call dir f d st 66 vs = (lendAll C st.b st.m vs).bind fun q => (call 66 q [] []).bind fun r => ret C (C.own f d) vs d st r.1 := callK_pure C call f d st dir 66 vs rfl
theorem K67 (call : Caller) (dir : Bool) (f : FuncId) (d : Tmp) (st : St) (vs : List PV) : callK C call dir f d st 67 vs = (lendAll C st.b st.m vs).bind fun q => (call 67 q [] []).bind fun r => ret C (C.own f d) vs d st r.1 := callK_pure C call f d st dir 67 vs rfl
theorem K68 (call : Caller) (dir : Bool) (f : FuncId) (d : Tmp) (st : St) (vs : List PV) : callK C call dir f d st 68 vs = (lendAll C st.b st.m vs).bind fun q => (call 68 q [] []).bind fun r => ret C (C.own f d) vs d st r.1 := callK_pure C call f d st dir 68 vs rfl
theorem K69 (call : Caller) (dir : Bool) (f : FuncId) (d : Tmp) (st : St) (vs : List PV) : callK C call dir f d st 69 vs = (lendAll C st.b st.m vs).bind fun q => (call 69 q [] []).bind fun r => ret C (C.own f d) vs d st r.1 := callK_pure C call f d st dir 69 vs rfl
theorem K70 (call : Caller) (dir : Bool) (f : FuncId) (d : Tmp) (st : St) (vs : List PV) : callK C call dir f d st 70 vs = (lendAll C st.b st.m vs).bind fun q => (call 70 q [] []).bind fun r => ret C (C.own f d) vs d st r.1 := callK_pure C call f d st dir 70 vs rfl
theorem K71 (call : Caller) (dir : Bool) (f : FuncId) (d : Tmp) (st : St) (vs : List PV) : callK C call dir f d st 71 vs = (lendAll C st.b st.m vs).bind fun q => (call 71 q [] []).bind fun r => ret C (C.own f d) vs d st r.1 := callK_pure C call f d st dir 71 vs rfl
theorem K72 (call : Caller) (dir : Bool) (f : FuncId) (d : Tmp) (st : St) (vs : List PV) : callK C call dir f d st 72 vs = (lendAll C st.b st.m vs).bind fun q => (call 72 q [] []).bind fun r => ret C (C.own f d) vs d st r.1 := callK_pure C call f d st dir 72 vs rfl
theorem K73 (call : Caller) (dir : Bool) (f : FuncId) (d : Tmp) (st : St) (vs : List PV) : callK C call dir f d st 73 vs = (lendAll C st.b st.m vs).bind fun q => (call 73 q [] []).bind fun r => ret C (C.own f d) vs d st r.1 := callK_pure C call f d st dir 73 vs rfl
theorem K74 (call : Caller) (dir : Bool) (f : FuncId) (d : Tmp) (st : St) (vs : List PV) : callK C call dir f d st 74 vs = (lendAll C st.b st.m vs).bind fun q => (call 74 q [] []).bind fun r => ret C (C.own f d) vs d st r.1 := callK_pure C call f d st dir 74 vs rfl
theorem K75 (call : Caller) (dir : Bool) (f : FuncId) (d : Tmp) (st : St) (vs : List PV) : callK C call dir f d st 75 vs = (lendAll C st.b st.m vs).bind fun q => (call 75 q [] []).bind fun r => ret C (C.own f d) vs d st r.1 := callK_pure C call f d st dir 75 vs rfl
theorem K76 (call : Caller) (dir : Bool) (f : FuncId) (d : Tmp) (st : St) (vs : List PV) : callK C call dir f d st 76 vs = (lendAll C st.b st.m vs).bind fun q => (call 76 q [] []).bind fun r => ret C (C.own f d) vs d st r.1 := callK_pure C call f d st dir 76 vs rfl
theorem K77 (call : Caller) (dir : Bool) (f : FuncId) (d : Tmp) (st : St) (vs : List PV) : callK C call dir f d st 77 vs = (lendAll C st.b st.m vs).bind fun q => (call 77 q [] []).bind fun r => ret C (C.own f d) vs d st r.1 := callK_pure C call f d st dir 77 vs rfl
theorem K78 (call : Caller) (dir : Bool) (f : FuncId) (d : Tmp) (st : St) (vs : List PV) : callK C call dir f d st 78 vs = (lendAll C st.b st.m vs).bind fun q => (call 78 q [] []).bind fun r => ret C (C.own f d) vs d st r.1 := callK_pure C call f d st dir 78 vs rfl
theorem K79 (call : Caller) (dir : Bool) (f : FuncId) (d : Tmp) (st : St) (vs : List PV) : callK C call dir f d st 79 vs = (lendAll C st.b st.m vs).bind fun q => (call 79 q [] []).bind fun r => ret C (C.own f d) vs d st r.1 := callK_pure C call f d st dir 79 vs rfl
theorem K80 (call : Caller) (dir : Bool) (f : FuncId) (d : Tmp) (st : St) (vs : List PV) : callK C call dir f d st 80 vs = (lendAll C st.b st.m vs).bind fun q => (call 80 q [] []).bind fun r => ret C (C.own f d) vs d st r.1 := callK_pure C call f d st dir 80 vs rfl
theorem K81 (call : Caller) (dir : Bool) (f : FuncId) (d : Tmp) (st : St) (vs : List PV) : callK C call dir f d st 81 vs = (lendAll C st.b st.m vs).bind fun q => (call 81 q [] []).bind fun r => ret C (C.own f d) vs d st r.1 := callK_pure C call f d st dir 81 vs rfl
theorem K82 (call : Caller) (dir : Bool) (f : FuncId) (d : Tmp) (st : St) (vs : List PV) : callK C call dir f d st 82 vs = (lendAll C st.b st.m vs).bind fun q => (call 82 q [] []).bind fun r => ret C (C.own f d) vs d st r.1 := callK_pure C call f d st dir 82 vs rfl
theorem K83 (call : Caller) (dir : Bool) (f : FuncId) (d : Tmp) (st : St) (vs : List PV) : callK C call dir f d st 83 vs = (lendAll C st.b st.m vs).bind fun q => (call 83 q [] []).bind fun r => ret C (C.own f d) vs d st r.1 := callK_pure C call f d st dir 83 vs rfl
theorem K84 (call : Caller) (dir : Bool) (f : FuncId) (d : Tmp) (st : St) (vs : List PV) : callK C call dir f d st 84 vs = (lendAll C st.b st.m vs).bind fun q => (call 84 q [] []).bind fun r => ret C (C.own f d) vs d st r.1 := callK_pure C call f d st dir 84 vs rfl
theorem K85 (call : Caller) (dir : Bool) (f : FuncId) (d : Tmp) (st : St) (vs : List PV) : callK C call dir f d st 85 vs = (lendAll C st.b st.m vs).bind fun q => (call 85 q [] []).bind fun r => ret C (C.own f d) vs d st r.1 := callK_pure C call f d st dir 85 vs rfl
theorem K86 (call : Caller) (dir : Bool) (f : FuncId) (d : Tmp) (st : St) (vs : List PV) : callK C call dir f d st 86 vs = (lendAll C st.b st.m vs).bind fun q => (call 86 q [] []).bind fun r => ret C (C.own f d) vs d st r.1 := callK_pure C call f d st dir 86 vs rfl
theorem K87 (call : Caller) (dir : Bool) (f : FuncId) (d : Tmp) (st : St) (vs : List PV) : callK C call dir f d st 87 vs = (lendAll C st.b st.m vs).bind fun q => (call 87 q [] []).bind fun r => ret C (C.own f d) vs d st r.1 := callK_pure C call f d st dir 87 vs rfl
theorem K88 (call : Caller) (dir : Bool) (f : FuncId) (d : Tmp) (st : St) (vs : List PV) : callK C call dir f d st 88 vs = (lendAll C st.b st.m vs).bind fun q => (call 88 q [] []).bind fun r => ret C (C.own f d) vs d st r.1 := callK_pure C call f d st dir 88 vs rfl
theorem K89 (call : Caller) (dir : Bool) (f : FuncId) (d : Tmp) (st : St) (vs : List PV) : callK C call dir f d st 89 vs = (lendAll C st.b st.m vs).bind fun q => (call 89 q [] []).bind fun r => ret C (C.own f d) vs d st r.1 := callK_pure C call f d st dir 89 vs rfl
theorem K90 (call : Caller) (dir : Bool) (f : FuncId) (d : Tmp) (st : St) (vs : List PV) : callK C call dir f d st 90 vs = (lendAll C st.b st.m vs).bind fun q => (call 90 q [] []).bind fun r => ret C (C.own f d) vs d st r.1 := callK_pure C call f d st dir 90 vs rfl
theorem K91 (call : Caller) (dir : Bool) (f : FuncId) (d : Tmp) (st : St) (vs : List PV) : callK C call dir f d st 91 vs = (lendAll C st.b st.m vs).bind fun q => (call 91 q [] []).bind fun r => ret C (C.own f d) vs d st r.1 := callK_pure C call f d st dir 91 vs rfl
theorem K92 (call : Caller) (dir : Bool) (f : FuncId) (d : Tmp) (st : St) (vs : List PV) : callK C call dir f d st 92 vs = (lendAll C st.b st.m vs).bind fun q => (call 92 q [] []).bind fun r => ret C (C.own f d) vs d st r.1 := callK_pure C call f d st dir 92 vs rfl
theorem K94 (call : Caller) (dir : Bool) (f : FuncId) (d : Tmp) (st : St) (vs : List PV) : callK C call dir f d st 94 vs = (lendAll C st.b st.m vs).bind fun q => (call 94 q [] []).bind fun r => ret C (C.own f d) vs d st r.1 := callK_pure C call f d st dir 94 vs rfl
theorem K97 (call : Caller) (dir : Bool) (f : FuncId) (d : Tmp) (st : St) (vs : List PV) : callK C call dir f d st 97 vs = (lendAll C st.b st.m vs).bind fun q => (call 97 q [] []).bind fun r => ret C (C.own f d) vs d st r.1 := callK_pure C call f d st dir 97 vs rfl
theorem K98 (call : Caller) (dir : Bool) (f : FuncId) (d : Tmp) (st : St) (vs : List PV) : callK C call dir f d st 98 vs = (lendAll C st.b st.m vs).bind fun q => (call 98 q [] []).bind fun r => ret C (C.own f d) vs d st r.1 := callK_pure C call f d st dir 98 vs rfl
theorem K99 (call : Caller) (dir : Bool) (f : FuncId) (d : Tmp) (st : St) (vs : List PV) : callK C call dir f d st 99 vs = (lendAll C st.b st.m vs).bind fun q => (call 99 q [] []).bind fun r => ret C (C.own f d) vs d st r.1 := callK_pure C call f d st dir 99 vs rfl
theorem K100 (call : Caller) (dir : Bool) (f : FuncId) (d : Tmp) (st : St) (vs : List PV) : callK C call dir f d st 100 vs = (lendAll C st.b st.m vs).bind fun q => (call 100 q [] []).bind fun r => ret C (C.own f d) vs d st r.1 := callK_pure C call f d st dir 100 vs rfl
theorem K105 (call : Caller) (dir : Bool) (f : FuncId) (d : Tmp) (st : St) (vs : List PV) : callK C call dir f d st 105 vs = (lendAll C st.b st.m vs).bind fun q => (call 105 q [] []).bind fun r => ret C (C.own f d) vs d st r.1 := callK_pure C call f d st dir 105 vs rfl
theorem K106 (call : Caller) (dir : Bool) (f : FuncId) (d : Tmp) (st : St) (vs : List PV) : callK C call dir f d st 106 vs = (lendAll C st.b st.m vs).bind fun q => (call 106 q [] []).bind fun r => ret C (C.own f d) vs d st r.1 := callK_pure C call f d st dir 106 vs rfl
theorem K107 (call : Caller) (dir : Bool) (f : FuncId) (d : Tmp) (st : St) (vs : List PV) : callK C call dir f d st 107 vs = (lendAll C st.b st.m vs).bind fun q => (call 107 q [] []).bind fun r => ret C (C.own f d) vs d st r.1 := callK_pure C call f d st dir 107 vs rfl
theorem K108 (call : Caller) (dir : Bool) (f : FuncId) (d : Tmp) (st : St) (vs : List PV) : callK C call dir f d st 108 vs = (lendAll C st.b st.m vs).bind fun q => (call 108 q [] []).bind fun r => ret C (C.own f d) vs d st r.1 := callK_pure C call f d st dir 108 vs rfl
theorem K109 (call : Caller) (dir : Bool) (f : FuncId) (d : Tmp) (st : St) (vs : List PV) : callK C call dir f d st 109 vs = (lendAll C st.b st.m vs).bind fun q => (call 109 q [] []).bind fun r => ret C (C.own f d) vs d st r.1 := callK_pure C call f d st dir 109 vs rfl
theorem K110 (call : Caller) (dir : Bool) (f : FuncId) (d : Tmp) (st : St) (vs : List PV) : callK C call dir f d st 110 vs = (lendAll C st.b st.m vs).bind fun q => (call 110 q [] []).bind fun r => ret C (C.own f d) vs d st r.1 := callK_pure C call f d st dir 110 vs rfl
theorem K111 (call : Caller) (dir : Bool) (f : FuncId) (d : Tmp) (st : St) (vs : List PV) : callK C call dir f d st 111 vs = (lendAll C st.b st.m vs).bind fun q => (call 111 q [] []).bind fun r => ret C (C.own f d) vs d st r.1 := callK_pure C call f d st dir 111 vs rfl
theorem K112 (call : Caller) (dir : Bool) (f : FuncId) (d : Tmp) (st : St) (vs : List PV) : callK C call dir f d st 112 vs = (lendAll C st.b st.m vs).bind fun q => (call 112 q [] []).bind fun r => ret C (C.own f d) vs d st r.1 := callK_pure C call f d st dir 112 vs rfl
theorem K113 (call : Caller) (dir : Bool) (f : FuncId) (d : Tmp) (st : St) (vs : List PV) : callK C call dir f d st 113 vs = (lendAll C st.b st.m vs).bind fun q => (call 113 q [] []).bind fun r => ret C (C.own f d) vs d st r.1 := callK_pure C call f d st dir 113 vs rfl
theorem K116 (call : Caller) (dir : Bool) (f : FuncId) (d : Tmp) (st : St) (vs : List PV) : callK C call dir f d st 116 vs = (lendAll C st.b st.m vs).bind fun q => (call 116 q [] []).bind fun r => ret C (C.own f d) vs d st r.1 := callK_pure C call f d st dir 116 vs rfl
theorem K117 (call : Caller) (dir : Bool) (f : FuncId) (d : Tmp) (st : St) (vs : List PV) : callK C call dir f d st 117 vs = (lendAll C st.b st.m vs).bind fun q => (call 117 q [] []).bind fun r => ret C (C.own f d) vs d st r.1 := callK_pure C call f d st dir 117 vs rfl
theorem K119 (call : Caller) (dir : Bool) (f : FuncId) (d : Tmp) (st : St) (vs : List PV) : callK C call dir f d st 119 vs = (lendAll C st.b st.m vs).bind fun q => (call 119 q [] []).bind fun r => ret C (C.own f d) vs d st r.1 := callK_pure C call f d st dir 119 vs rfl
theorem K120 (call : Caller) (dir : Bool) (f : FuncId) (d : Tmp) (st : St) (vs : List PV) : callK C call dir f d st 120 vs = (lendAll C st.b st.m vs).bind fun q => (call 120 q [] []).bind fun r => ret C (C.own f d) vs d st r.1 := callK_pure C call f d st dir 120 vs rfl
theorem K121 (call : Caller) (dir : Bool) (f : FuncId) (d : Tmp) (st : St) (vs : List PV) : callK C call dir f d st 121 vs = (lendAll C st.b st.m vs).bind fun q => (call 121 q [] []).bind fun r => ret C (C.own f d) vs d st r.1 := callK_pure C call f d st dir 121 vs rfl
theorem K122 (call : Caller) (dir : Bool) (f : FuncId) (d : Tmp) (st : St) (vs : List PV) : callK C call dir f d st 122 vs = (lendAll C st.b st.m vs).bind fun q => (call 122 q [] []).bind fun r => ret C (C.own f d) vs d st r.1 := callK_pure C call f d st dir 122 vs rfl
theorem K123 (call : Caller) (dir : Bool) (f : FuncId) (d : Tmp) (st : St) (vs : List PV) : callK C call dir f d st 123 vs = (lendAll C st.b st.m vs).bind fun q => (call 123 q [] []).bind fun r => ret C (C.own f d) vs d st r.1 := callK_pure C call f d st dir 123 vs rfl
theorem K124 (call : Caller) (dir : Bool) (f : FuncId) (d : Tmp) (st : St) (vs : List PV) : callK C call dir f d st 124 vs = (lendAll C st.b st.m vs).bind fun q => (call 124 q [] []).bind fun r => ret C (C.own f d) vs d st r.1 := callK_pure C call f d st dir 124 vs rfl
theorem K125 (call : Caller) (dir : Bool) (f : FuncId) (d : Tmp) (st : St) (vs : List PV) : callK C call dir f d st 125 vs = (lendAll C st.b st.m vs).bind fun q => (call 125 q [] []).bind fun r => ret C (C.own f d) vs d st r.1 := callK_pure C call f d st dir 125 vs rfl
theorem K126 (call : Caller) (dir : Bool) (f : FuncId) (d : Tmp) (st : St) (vs : List PV) : callK C call dir f d st 126 vs = (lendAll C st.b st.m vs).bind fun q => (call 126 q [] []).bind fun r => ret C (C.own f d) vs d st r.1 := callK_pure C call f d st dir 126 vs rfl
theorem K127 (call : Caller) (dir : Bool) (f : FuncId) (d : Tmp) (st : St) (vs : List PV) : callK C call dir f d st 127 vs = (lendAll C st.b st.m vs).bind fun q => (call 127 q [] []).bind fun r => ret C (C.own f d) vs d st r.1 := callK_pure C call f d st dir 127 vs rfl
theorem K128 (call : Caller) (dir : Bool) (f : FuncId) (d : Tmp) (st : St) (vs : List PV) : callK C call dir f d st 128 vs = (lendAll C st.b st.m vs).bind fun q => (call 128 q [] []).bind fun r => ret C (C.own f d) vs d st r.1 := callK_pure C call f d st dir 128 vs rfl
theorem K129 (call : Caller) (dir : Bool) (f : FuncId) (d : Tmp) (st : St) (vs : List PV) : callK C call dir f d st 129 vs = (lendAll C st.b st.m vs).bind fun q => (call 129 q [] []).bind fun r => ret C (C.own f d) vs d st r.1 := callK_pure C call f d st dir 129 vs rfl
theorem K131 (call : Caller) (dir : Bool) (f : FuncId) (d : Tmp) (st : St) (vs : List PV) : callK C call dir f d st 131 vs = (lendAll C st.b st.m vs).bind fun q => (call 131 q [] []).bind fun r => ret C (C.own f d) vs d st r.1 := callK_pure C call f d st dir 131 vs rfl
theorem K132 (call : Caller) (dir : Bool) (f : FuncId) (d : Tmp) (st : St) (vs : List PV) : callK C call dir f d st 132 vs = (lendAll C st.b st.m vs).bind fun q => (call 132 q [] []).bind fun r => ret C (C.own f d) vs d st r.1 := callK_pure C call f d st dir 132 vs rfl
theorem K133 (call : Caller) (dir : Bool) (f : FuncId) (d : Tmp) (st : St) (vs : List PV) : callK C call dir f d st 133 vs = (lendAll C st.b st.m vs).bind fun q => (call 133 q [] []).bind fun r => ret C (C.own f d) vs d st r.1 := callK_pure C call f d st dir 133 vs rfl
theorem K134 (call : Caller) (dir : Bool) (f : FuncId) (d : Tmp) (st : St) (vs : List PV) : callK C call dir f d st 134 vs = (lendAll C st.b st.m vs).bind fun q => (call 134 q [] []).bind fun r => ret C (C.own f d) vs d st r.1 := callK_pure C call f d st dir 134 vs rfl
theorem K135 (call : Caller) (dir : Bool) (f : FuncId) (d : Tmp) (st : St) (vs : List PV) : callK C call dir f d st 135 vs = (lendAll C st.b st.m vs).bind fun q => (call 135 q [] []).bind fun r => ret C (C.own f d) vs d st r.1 := callK_pure C call f d st dir 135 vs rfl
theorem K138 (call : Caller) (dir : Bool) (f : FuncId) (d : Tmp) (st : St) (vs : List PV) : callK C call dir f d st 138 vs = (lendAll C st.b st.m vs).bind fun q => (call 138 q [] []).bind fun r => ret C (C.own f d) vs d st r.1 := callK_pure C call f d st dir 138 vs rfl
theorem K139 (call : Caller) (dir : Bool) (f : FuncId) (d : Tmp) (st : St) (vs : List PV) : callK C call dir f d st 139 vs = (lendAll C st.b st.m vs).bind fun q => (call 139 q [] []).bind fun r => ret C (C.own f d) vs d st r.1 := callK_pure C call f d st dir 139 vs rfl
theorem K140 (call : Caller) (dir : Bool) (f : FuncId) (d : Tmp) (st : St) (vs : List PV) : callK C call dir f d st 140 vs = (lendAll C st.b st.m vs).bind fun q => (call 140 q [] []).bind fun r => ret C (C.own f d) vs d st r.1 := callK_pure C call f d st dir 140 vs rfl
theorem K141 (call : Caller) (dir : Bool) (f : FuncId) (d : Tmp) (st : St) (vs : List PV) : callK C call dir f d st 141 vs = (lendAll C st.b st.m vs).bind fun q => (call 141 q [] []).bind fun r => ret C (C.own f d) vs d st r.1 := callK_pure C call f d st dir 141 vs rfl
theorem K142 (call : Caller) (dir : Bool) (f : FuncId) (d : Tmp) (st : St) (vs : List PV) : callK C call dir f d st 142 vs = (lendAll C st.b st.m vs).bind fun q => (call 142 q [] []).bind fun r => ret C (C.own f d) vs d st r.1 := callK_pure C call f d st dir 142 vs rfl
theorem K143 (call : Caller) (dir : Bool) (f : FuncId) (d : Tmp) (st : St) (vs : List PV) : callK C call dir f d st 143 vs = (lendAll C st.b st.m vs).bind fun q => (call 143 q [] []).bind fun r => ret C (C.own f d) vs d st r.1 := callK_pure C call f d st dir 143 vs rfl
theorem K144 (call : Caller) (dir : Bool) (f : FuncId) (d : Tmp) (st : St) (vs : List PV) : callK C call dir f d st 144 vs = (lendAll C st.b st.m vs).bind fun q => (call 144 q [] []).bind fun r => ret C (C.own f d) vs d st r.1 := callK_pure C call f d st dir 144 vs rfl
theorem K145 (call : Caller) (dir : Bool) (f : FuncId) (d : Tmp) (st : St) (vs : List PV) : callK C call dir f d st 145 vs = (lendAll C st.b st.m vs).bind fun q => (call 145 q [] []).bind fun r => ret C (C.own f d) vs d st r.1 := callK_pure C call f d st dir 145 vs rfl
theorem K146 (call : Caller) (dir : Bool) (f : FuncId) (d : Tmp) (st : St) (vs : List PV) : callK C call dir f d st 146 vs = (lendAll C st.b st.m vs).bind fun q => (call 146 q [] []).bind fun r => ret C (C.own f d) vs d st r.1 := callK_pure C call f d st dir 146 vs rfl
theorem K147 (call : Caller) (dir : Bool) (f : FuncId) (d : Tmp) (st : St) (vs : List PV) : callK C call dir f d st 147 vs = (lendAll C st.b st.m vs).bind fun q => (call 147 q [] []).bind fun r => ret C (C.own f d) vs d st r.1 := callK_pure C call f d st dir 147 vs rfl
theorem K148 (call : Caller) (dir : Bool) (f : FuncId) (d : Tmp) (st : St) (vs : List PV) : callK C call dir f d st 148 vs = (lendAll C st.b st.m vs).bind fun q => (call 148 q [] []).bind fun r => ret C (C.own f d) vs d st r.1 := callK_pure C call f d st dir 148 vs rfl
theorem K149 (call : Caller) (dir : Bool) (f : FuncId) (d : Tmp) (st : St) (vs : List PV) : callK C call dir f d st 149 vs = (lendAll C st.b st.m vs).bind fun q => (call 149 q [] []).bind fun r => ret C (C.own f d) vs d st r.1 := callK_pure C call f d st dir 149 vs rfl
theorem K150 (call : Caller) (dir : Bool) (f : FuncId) (d : Tmp) (st : St) (vs : List PV) : callK C call dir f d st 150 vs = (lendAll C st.b st.m vs).bind fun q => (call 150 q [] []).bind fun r => ret C (C.own f d) vs d st r.1 := callK_pure C call f d st dir 150 vs rfl
theorem K151 (call : Caller) (dir : Bool) (f : FuncId) (d : Tmp) (st : St) (vs : List PV) : callK C call dir f d st 151 vs = (lendAll C st.b st.m vs).bind fun q => (call 151 q [] []).bind fun r => ret C (C.own f d) vs d st r.1 := callK_pure C call f d st dir 151 vs rfl
theorem K152 (call : Caller) (dir : Bool) (f : FuncId) (d : Tmp) (st : St) (vs : List PV) : callK C call dir f d st 152 vs = (lendAll C st.b st.m vs).bind fun q => (call 152 q [] []).bind fun r => ret C (C.own f d) vs d st r.1 := callK_pure C call f d st dir 152 vs rfl
theorem K153 (call : Caller) (dir : Bool) (f : FuncId) (d : Tmp) (st : St) (vs : List PV) : callK C call dir f d st 153 vs = (lendAll C st.b st.m vs).bind fun q => (call 153 q [] []).bind fun r => ret C (C.own f d) vs d st r.1 := callK_pure C call f d st dir 153 vs rfl
theorem K154 (call : Caller) (dir : Bool) (f : FuncId) (d : Tmp) (st : St) (vs : List PV) : callK C call dir f d st 154 vs = (lendAll C st.b st.m vs).bind fun q => (call 154 q [] []).bind fun r => ret C (C.own f d) vs d st r.1 := callK_pure C call f d st dir 154 vs rfl
theorem K155 (call : Caller) (dir : Bool) (f : FuncId) (d : Tmp) (st : St) (vs : List PV) : callK C call dir f d st 155 vs = (lendAll C st.b st.m vs).bind fun q => (call 155 q [] []).bind fun r => ret C (C.own f d) vs d st r.1 := callK_pure C call f d st dir 155 vs rfl
theorem K156 (call : Caller) (dir : Bool) (f : FuncId) (d : Tmp) (st : St) (vs : List PV) : callK C call dir f d st 156 vs = (lendAll C st.b st.m vs).bind fun q => (call 156 q [] []).bind fun r => ret C (C.own f d) vs d st r.1 := callK_pure C call f d st dir 156 vs rfl
theorem K157 (call : Caller) (dir : Bool) (f : FuncId) (d : Tmp) (st : St) (vs : List PV) : callK C call dir f d st 157 vs = (lendAll C st.b st.m vs).bind fun q => (call 157 q [] []).bind fun r => ret C (C.own f d) vs d st r.1 := callK_pure C call f d st dir 157 vs rfl
theorem K158 (call : Caller) (dir : Bool) (f : FuncId) (d : Tmp) (st : St) (vs : List PV) : callK C call dir f d st 158 vs = (lendAll C st.b st.m vs).bind fun q => (call 158 q [] []).bind fun r => ret C (C.own f d) vs d st r.1 := callK_pure C call f d st dir 158 vs rfl
theorem K159 (call : Caller) (dir : Bool) (f : FuncId) (d : Tmp) (st : St) (vs : List PV) : callK C call dir f d st 159 vs = (lendAll C st.b st.m vs).bind fun q => (call 159 q [] []).bind fun r => ret C (C.own f d) vs d st r.1 := callK_pure C call f d st dir 159 vs rfl
theorem K165 (call : Caller) (dir : Bool) (f : FuncId) (d : Tmp) (st : St) (vs : List PV) : callK C call dir f d st 165 vs = (lendAll C st.b st.m vs).bind fun q => (call 165 q [] []).bind fun r => ret C (C.own f d) vs d st r.1 := callK_pure C call f d st dir 165 vs rfl
theorem K166 (call : Caller) (dir : Bool) (f : FuncId) (d : Tmp) (st : St) (vs : List PV) : callK C call dir f d st 166 vs = (lendAll C st.b st.m vs).bind fun q => (call 166 q [] []).bind fun r => ret C (C.own f d) vs d st r.1 := callK_pure C call f d st dir 166 vs rfl
theorem K167 (call : Caller) (dir : Bool) (f : FuncId) (d : Tmp) (st : St) (vs : List PV) : callK C call dir f d st 167 vs = (lendAll C st.b st.m vs).bind fun q => (call 167 q [] []).bind fun r => ret C (C.own f d) vs d st r.1 := callK_pure C call f d st dir 167 vs rfl
theorem K168 (call : Caller) (dir : Bool) (f : FuncId) (d : Tmp) (st : St) (vs : List PV) : callK C call dir f d st 168 vs = (lendAll C st.b st.m vs).bind fun q => (call 168 q [] []).bind fun r => ret C (C.own f d) vs d st r.1 := callK_pure C call f d st dir 168 vs rfl
theorem K169 (call : Caller) (dir : Bool) (f : FuncId) (d : Tmp) (st : St) (vs : List PV) : callK C call dir f d st 169 vs = (lendAll C st.b st.m vs).bind fun q => (call 169 q [] []).bind fun r => ret C (C.own f d) vs d st r.1 := callK_pure C call f d st dir 169 vs rfl
theorem K172 (call : Caller) (dir : Bool) (f : FuncId) (d : Tmp) (st : St) (vs : List PV) : callK C call dir f d st 172 vs = (lendAll C st.b st.m vs).bind fun q => (call 172 q [] []).bind fun r => ret C (C.own f d) vs d st r.1 := callK_pure C call f d st dir 172 vs rfl
theorem K173 (call : Caller) (dir : Bool) (f : FuncId) (d : Tmp) (st : St) (vs : List PV) : callK C call dir f d st 173 vs = (lendAll C st.b st.m vs).bind fun q => (call 173 q [] []).bind fun r => ret C (C.own f d) vs d st r.1 := callK_pure C call f d st dir 173 vs rfl
theorem K174 (call : Caller) (dir : Bool) (f : FuncId) (d : Tmp) (st : St) (vs : List PV) : callK C call dir f d st 174 vs = (lendAll C st.b st.m vs).bind fun q => (call 174 q [] []).bind fun r => ret C (C.own f d) vs d st r.1 := callK_pure C call f d st dir 174 vs rfl
theorem K175 (call : Caller) (dir : Bool) (f : FuncId) (d : Tmp) (st : St) (vs : List PV) : callK C call dir f d st 175 vs = (lendAll C st.b st.m vs).bind fun q => (call 175 q [] []).bind fun r => ret C (C.own f d) vs d st r.1 := callK_pure C call f d st dir 175 vs rfl
theorem K176 (call : Caller) (dir : Bool) (f : FuncId) (d : Tmp) (st : St) (vs : List PV) : callK C call dir f d st 176 vs = (lendAll C st.b st.m vs).bind fun q => (call 176 q [] []).bind fun r => ret C (C.own f d) vs d st r.1 := callK_pure C call f d st dir 176 vs rfl
theorem K177 (call : Caller) (dir : Bool) (f : FuncId) (d : Tmp) (st : St) (vs : List PV) : callK C call dir f d st 177 vs = (lendAll C st.b st.m vs).bind fun q => (call 177 q [] []).bind fun r => ret C (C.own f d) vs d st r.1 := callK_pure C call f d st dir 177 vs rfl
theorem K178 (call : Caller) (dir : Bool) (f : FuncId) (d : Tmp) (st : St) (vs : List PV) : callK C call dir f d st 178 vs = (lendAll C st.b st.m vs).bind fun q => (call 178 q [] []).bind fun r => ret C (C.own f d) vs d st r.1 := callK_pure C call f d st dir 178 vs rfl
theorem K179 (call : Caller) (dir : Bool) (f : FuncId) (d : Tmp) (st : St) (vs : List PV) : callK C call dir f d st 179 vs = (lendAll C st.b st.m vs).bind fun q => (call 179 q [] []).bind fun r => ret C (C.own f d) vs d st r.1 := callK_pure C call f d st dir 179 vs rfl
theorem K180 (call : Caller) (dir : Bool) (f : FuncId) (d : Tmp) (st : St) (vs : List PV) : callK C call dir f d st 180 vs = (lendAll C st.b st.m vs).bind fun q => (call 180 q [] []).bind fun r => ret C (C.own f d) vs d st r.1 := callK_pure C call f d st dir 180 vs rfl
theorem K181 (call : Caller) (dir : Bool) (f : FuncId) (d : Tmp) (st : St) (vs : List PV) : callK C call dir f d st 181 vs = (lendAll C st.b st.m vs).bind fun q => (call 181 q [] []).bind fun r => ret C (C.own f d) vs d st r.1 := callK_pure C call f d st dir 181 vs rfl
theorem K182 (call : Caller) (dir : Bool) (f : FuncId) (d : Tmp) (st : St) (vs : List PV) : callK C call dir f d st 182 vs = (lendAll C st.b st.m vs).bind fun q => (call 182 q [] []).bind fun r => ret C (C.own f d) vs d st r.1 := callK_pure C call f d st dir 182 vs rfl
theorem K183 (call : Caller) (dir : Bool) (f : FuncId) (d : Tmp) (st : St) (vs : List PV) : callK C call dir f d st 183 vs = (lendAll C st.b st.m vs).bind fun q => (call 183 q [] []).bind fun r => ret C (C.own f d) vs d st r.1 := callK_pure C call f d st dir 183 vs rfl
theorem K184 (call : Caller) (dir : Bool) (f : FuncId) (d : Tmp) (st : St) (vs : List PV) : callK C call dir f d st 184 vs = (lendAll C st.b st.m vs).bind fun q => (call 184 q [] []).bind fun r => ret C (C.own f d) vs d st r.1 := callK_pure C call f d st dir 184 vs rfl
theorem K185 (call : Caller) (dir : Bool) (f : FuncId) (d : Tmp) (st : St) (vs : List PV) : callK C call dir f d st 185 vs = (lendAll C st.b st.m vs).bind fun q => (call 185 q [] []).bind fun r => ret C (C.own f d) vs d st r.1 := callK_pure C call f d st dir 185 vs rfl
theorem K186 (call : Caller) (dir : Bool) (f : FuncId) (d : Tmp) (st : St) (vs : List PV) : callK C call dir f d st 186 vs = (lendAll C st.b st.m vs).bind fun q => (call 186 q [] []).bind fun r => ret C (C.own f d) vs d st r.1 := callK_pure C call f d st dir 186 vs rfl
theorem K189 (call : Caller) (dir : Bool) (f : FuncId) (d : Tmp) (st : St) (vs : List PV) : callK C call dir f d st 189 vs = (lendAll C st.b st.m vs).bind fun q => (call 189 q [] []).bind fun r => ret C (C.own f d) vs d st r.1 := callK_pure C call f d st dir 189 vs rfl
theorem K190 (call : Caller) (dir : Bool) (f : FuncId) (d : Tmp) (st : St) (vs : List PV) : callK C call dir f d st 190 vs = (lendAll C st.b st.m vs).bind fun q => (call 190 q [] []).bind fun r => ret C (C.own f d) vs d st r.1 := callK_pure C call f d st dir 190 vs rfl
theorem K191 (call : Caller) (dir : Bool) (f : FuncId) (d : Tmp) (st : St) (vs : List PV) : callK C call dir f d st 191 vs = (lendAll C st.b st.m vs).bind fun q => (call 191 q [] []).bind fun r => ret C (C.own f d) vs d st r.1 := callK_pure C call f d st dir 191 vs rfl
theorem K192 (call : Caller) (dir : Bool) (f : FuncId) (d : Tmp) (st : St) (vs : List PV) : callK C call dir f d st 192 vs = (lendAll C st.b st.m vs).bind fun q => (call 192 q [] []).bind fun r => ret C (C.own f d) vs d st r.1 := callK_pure C call f d st dir 192 vs rfl
theorem K193 (call : Caller) (dir : Bool) (f : FuncId) (d : Tmp) (st : St) (vs : List PV) : callK C call dir f d st 193 vs = (lendAll C st.b st.m vs).bind fun q => (call 193 q [] []).bind fun r => ret C (C.own f d) vs d st r.1 := callK_pure C call f d st dir 193 vs rfl
theorem K194 (call : Caller) (dir : Bool) (f : FuncId) (d : Tmp) (st : St) (vs : List PV) : callK C call dir f d st 194 vs = (lendAll C st.b st.m vs).bind fun q => (call 194 q [] []).bind fun r => ret C (C.own f d) vs d st r.1 := callK_pure C call f d st dir 194 vs rfl
theorem K195 (call : Caller) (dir : Bool) (f : FuncId) (d : Tmp) (st : St) (vs : List PV) : callK C call dir f d st 195 vs = (lendAll C st.b st.m vs).bind fun q => (call 195 q [] []).bind fun r => ret C (C.own f d) vs d st r.1 := callK_pure C call f d st dir 195 vs rfl
theorem K196 (call : Caller) (dir : Bool) (f : FuncId) (d : Tmp) (st : St) (vs : List PV) : callK C call dir f d st 196 vs = (lendAll C st.b st.m vs).bind fun q => (call 196 q [] []).bind fun r => ret C (C.own f d) vs d st r.1 := callK_pure C call f d st dir 196 vs rfl
theorem K197 (call : Caller) (dir : Bool) (f : FuncId) (d : Tmp) (st : St) (vs : List PV) : callK C call dir f d st 197 vs = (lendAll C st.b st.m vs).bind fun q => (call 197 q [] []).bind fun r => ret C (C.own f d) vs d st r.1 := callK_pure C call f d st dir 197 vs rfl
theorem K198 (call : Caller) (dir : Bool) (f : FuncId) (d : Tmp) (st : St) (vs : List PV) : callK C call dir f d st 198 vs = (lendAll C st.b st.m vs).bind fun q => (call 198 q [] []).bind fun r => ret C (C.own f d) vs d st r.1 := callK_pure C call f d st dir 198 vs rfl
theorem K199 (call : Caller) (dir : Bool) (f : FuncId) (d : Tmp) (st : St) (vs : List PV) : callK C call dir f d st 199 vs = (lendAll C st.b st.m vs).bind fun q => (call 199 q [] []).bind fun r => ret C (C.own f d) vs d st r.1 := callK_pure C call f d st dir 199 vs rfl
theorem K201 (call : Caller) (dir : Bool) (f : FuncId) (d : Tmp) (st : St) (vs : List PV) : callK C call dir f d st 201 vs = (lendAll C st.b st.m vs).bind fun q => (call 201 q [] []).bind fun r => ret C (C.own f d) vs d st r.1 := callK_pure C call f d st dir 201 vs rfl
theorem K202 (call : Caller) (dir : Bool) (f : FuncId) (d : Tmp) (st : St) (vs : List PV) : callK C call dir f d st 202 vs = (lendAll C st.b st.m vs).bind fun q => (call 202 q [] []).bind fun r => ret C (C.own f d) vs d st r.1 := callK_pure C call f d st dir 202 vs rfl
theorem K203 (call : Caller) (dir : Bool) (f : FuncId) (d : Tmp) (st : St) (vs : List PV) : callK C call dir f d st 203 vs = (lendAll C st.b st.m vs).bind fun q => (call 203 q [] []).bind fun r => ret C (C.own f d) vs d st r.1 := callK_pure C call f d st dir 203 vs rfl
theorem K204 (call : Caller) (dir : Bool) (f : FuncId) (d : Tmp) (st : St) (vs : List PV) : callK C call dir f d st 204 vs = (lendAll C st.b st.m vs).bind fun q => (call 204 q [] []).bind fun r => ret C (C.own f d) vs d st r.1 := callK_pure C call f d st dir 204 vs rfl
theorem K205 (call : Caller) (dir : Bool) (f : FuncId) (d : Tmp) (st : St) (vs : List PV) : callK C call dir f d st 205 vs = (lendAll C st.b st.m vs).bind fun q => (call 205 q [] []).bind fun r => ret C (C.own f d) vs d st r.1 := callK_pure C call f d st dir 205 vs rfl
theorem K206 (call : Caller) (dir : Bool) (f : FuncId) (d : Tmp) (st : St) (vs : List PV) : callK C call dir f d st 206 vs = (lendAll C st.b st.m vs).bind fun q => (call 206 q [] []).bind fun r => ret C (C.own f d) vs d st r.1 := callK_pure C call f d st dir 206 vs rfl
theorem K207 (call : Caller) (dir : Bool) (f : FuncId) (d : Tmp) (st : St) (vs : List PV) : callK C call dir f d st 207 vs = (lendAll C st.b st.m vs).bind fun q => (call 207 q [] []).bind fun r => ret C (C.own f d) vs d st r.1 := callK_pure C call f d st dir 207 vs rfl
theorem K208 (call : Caller) (dir : Bool) (f : FuncId) (d : Tmp) (st : St) (vs : List PV) : callK C call dir f d st 208 vs = (lendAll C st.b st.m vs).bind fun q => (call 208 q [] []).bind fun r => ret C (C.own f d) vs d st r.1 := callK_pure C call f d st dir 208 vs rfl
theorem K209 (call : Caller) (dir : Bool) (f : FuncId) (d : Tmp) (st : St) (vs : List PV) : callK C call dir f d st 209 vs = (lendAll C st.b st.m vs).bind fun q => (call 209 q [] []).bind fun r => ret C (C.own f d) vs d st r.1 := callK_pure C call f d st dir 209 vs rfl
theorem K210 (call : Caller) (dir : Bool) (f : FuncId) (d : Tmp) (st : St) (vs : List PV) : callK C call dir f d st 210 vs = (lendAll C st.b st.m vs).bind fun q => (call 210 q [] []).bind fun r => ret C (C.own f d) vs d st r.1 := callK_pure C call f d st dir 210 vs rfl
theorem K211 (call : Caller) (dir : Bool) (f : FuncId) (d : Tmp) (st : St) (vs : List PV) : callK C call dir f d st 211 vs = (lendAll C st.b st.m vs).bind fun q => (call 211 q [] []).bind fun r => ret C (C.own f d) vs d st r.1 := callK_pure C call f d st dir 211 vs rfl
theorem K212 (call : Caller) (dir : Bool) (f : FuncId) (d : Tmp) (st : St) (vs : List PV) : callK C call dir f d st 212 vs = (lendAll C st.b st.m vs).bind fun q => (call 212 q [] []).bind fun r => ret C (C.own f d) vs d st r.1 := callK_pure C call f d st dir 212 vs rfl
theorem K213 (call : Caller) (dir : Bool) (f : FuncId) (d : Tmp) (st : St) (vs : List PV) : callK C call dir f d st 213 vs = (lendAll C st.b st.m vs).bind fun q => (call 213 q [] []).bind fun r => ret C (C.own f d) vs d st r.1 := callK_pure C call f d st dir 213 vs rfl
theorem K214 (call : Caller) (dir : Bool) (f : FuncId) (d : Tmp) (st : St) (vs : List PV) : callK C call dir f d st 214 vs = (lendAll C st.b st.m vs).bind fun q => (call 214 q [] []).bind fun r => ret C (C.own f d) vs d st r.1 := callK_pure C call f d st dir 214 vs rfl
theorem K215 (call : Caller) (dir : Bool) (f : FuncId) (d : Tmp) (st : St) (vs : List PV) : callK C call dir f d st 215 vs = (lendAll C st.b st.m vs).bind fun q => (call 215 q [] []).bind fun r => ret C (C.own f d) vs d st r.1 := callK_pure C call f d st dir 215 vs rfl
theorem K216 (call : Caller) (dir : Bool) (f : FuncId) (d : Tmp) (st : St) (vs : List PV) : callK C call dir f d st 216 vs = (lendAll C st.b st.m vs).bind fun q => (call 216 q [] []).bind fun r => ret C (C.own f d) vs d st r.1 := callK_pure C call f d st dir 216 vs rfl
theorem K217 (call : Caller) (dir : Bool) (f : FuncId) (d : Tmp) (st : St) (vs : List PV) : callK C call dir f d st 217 vs = (lendAll C st.b st.m vs).bind fun q => (call 217 q [] []).bind fun r => ret C (C.own f d) vs d st r.1 := callK_pure C call f d st dir 217 vs rfl
theorem K218 (call : Caller) (dir : Bool) (f : FuncId) (d : Tmp) (st : St) (vs : List PV) : callK C call dir f d st 218 vs = (lendAll C st.b st.m vs).bind fun q => (call 218 q [] []).bind fun r => ret C (C.own f d) vs d st r.1 := callK_pure C call f d st dir 218 vs rfl
theorem K219 (call : Caller) (dir : Bool) (f : FuncId) (d : Tmp) (st : St) (vs : List PV) : callK C call dir f d st 219 vs = (lendAll C st.b st.m vs).bind fun q => (call 219 q [] []).bind fun r => ret C (C.own f d) vs d st r.1 := callK_pure C call f d st dir 219 vs rfl
theorem K220 (call : Caller) (dir : Bool) (f : FuncId) (d : Tmp) (st : St) (vs : List PV) : callK C call dir f d st 220 vs = (lendAll C st.b st.m vs).bind fun q => (call 220 q [] []).bind fun r => ret C (C.own f d) vs d st r.1 := callK_pure C call f d st dir 220 vs rfl
theorem K221 (call : Caller) (dir : Bool) (f : FuncId) (d : Tmp) (st : St) (vs : List PV) : callK C call dir f d st 221 vs = (lendAll C st.b st.m vs).bind fun q => (call 221 q [] []).bind fun r => ret C (C.own f d) vs d st r.1 := callK_pure C call f d st dir 221 vs rfl
theorem K222 (call : Caller) (dir : Bool) (f : FuncId) (d : Tmp) (st : St) (vs : List PV) : callK C call dir f d st 222 vs = (lendAll C st.b st.m vs).bind fun q => (call 222 q [] []).bind fun r => ret C (C.own f d) vs d st r.1 := callK_pure C call f d st dir 222 vs rfl
theorem K223 (call : Caller) (dir : Bool) (f : FuncId) (d : Tmp) (st : St) (vs : List PV) : callK C call dir f d st 223 vs = (lendAll C st.b st.m vs).bind fun q => (call 223 q [] []).bind fun r => ret C (C.own f d) vs d st r.1 := callK_pure C call f d st dir 223 vs rfl
theorem K224 (call : Caller) (dir : Bool) (f : FuncId) (d : Tmp) (st : St) (vs : List PV) : callK C call dir f d st 224 vs = (lendAll C st.b st.m vs).bind fun q => (call 224 q [] []).bind fun r => ret C (C.own f d) vs d st r.1 := callK_pure C call f d st dir 224 vs rfl
theorem K225 (call : Caller) (dir : Bool) (f : FuncId) (d : Tmp) (st : St) (vs : List PV) : callK C call dir f d st 225 vs = (lendAll C st.b st.m vs).bind fun q => (call 225 q [] []).bind fun r => ret C (C.own f d) vs d st r.1 := callK_pure C call f d st dir 225 vs rfl
theorem K226 (call : Caller) (dir : Bool) (f : FuncId) (d : Tmp) (st : St) (vs : List PV) : callK C call dir f d st 226 vs = (lendAll C st.b st.m vs).bind fun q => (call 226 q [] []).bind fun r => ret C (C.own f d) vs d st r.1 := callK_pure C call f d st dir 226 vs rfl
theorem K229 (call : Caller) (dir : Bool) (f : FuncId) (d : Tmp) (st : St) (vs : List PV) : callK C call dir f d st 229 vs = (lendAll C st.b st.m vs).bind fun q => (call 229 q [] []).bind fun r => ret C (C.own f d) vs d st r.1 := callK_pure C call f d st dir 229 vs rfl
theorem K230 (call : Caller) (dir : Bool) (f : FuncId) (d : Tmp) (st : St) (vs : List PV) : callK C call dir f d st 230 vs = (lendAll C st.b st.m vs).bind fun q => (call 230 q [] []).bind fun r => ret C (C.own f d) vs d st r.1 := callK_pure C call f d st dir 230 vs rfl
theorem K231 (call : Caller) (dir : Bool) (f : FuncId) (d : Tmp) (st : St) (vs : List PV) : callK C call dir f d st 231 vs = (lendAll C st.b st.m vs).bind fun q => (call 231 q [] []).bind fun r => ret C (C.own f d) vs d st r.1 := callK_pure C call f d st dir 231 vs rfl
theorem K232 (call : Caller) (dir : Bool) (f : FuncId) (d : Tmp) (st : St) (vs : List PV) : callK C call dir f d st 232 vs = (lendAll C st.b st.m vs).bind fun q => (call 232 q [] []).bind fun r => ret C (C.own f d) vs d st r.1 := callK_pure C call f d st dir 232 vs rfl
theorem K233 (call : Caller) (dir : Bool) (f : FuncId) (d : Tmp) (st : St) (vs : List PV) : callK C call dir f d st 233 vs = (lendAll C st.b st.m vs).bind fun q => (call 233 q [] []).bind fun r => ret C (C.own f d) vs d st r.1 := callK_pure C call f d st dir 233 vs rfl
theorem K234 (call : Caller) (dir : Bool) (f : FuncId) (d : Tmp) (st : St) (vs : List PV) : callK C call dir f d st 234 vs = (lendAll C st.b st.m vs).bind fun q => (call 234 q [] []).bind fun r => ret C (C.own f d) vs d st r.1 := callK_pure C call f d st dir 234 vs rfl
theorem K235 (call : Caller) (dir : Bool) (f : FuncId) (d : Tmp) (st : St) (vs : List PV) : callK C call dir f d st 235 vs = (lendAll C st.b st.m vs).bind fun q => (call 235 q [] []).bind fun r => ret C (C.own f d) vs d st r.1 := callK_pure C call f d st dir 235 vs rfl
theorem K236 (call : Caller) (dir : Bool) (f : FuncId) (d : Tmp) (st : St) (vs : List PV) : callK C call dir f d st 236 vs = (lendAll C st.b st.m vs).bind fun q => (call 236 q [] []).bind fun r => ret C (C.own f d) vs d st r.1 := callK_pure C call f d st dir 236 vs rfl
theorem K237 (call : Caller) (dir : Bool) (f : FuncId) (d : Tmp) (st : St) (vs : List PV) : callK C call dir f d st 237 vs = (lendAll C st.b st.m vs).bind fun q => (call 237 q [] []).bind fun r => ret C (C.own f d) vs d st r.1 := callK_pure C call f d st dir 237 vs rfl
theorem K238 (call : Caller) (dir : Bool) (f : FuncId) (d : Tmp) (st : St) (vs : List PV) : callK C call dir f d st 238 vs = (lendAll C st.b st.m vs).bind fun q => (call 238 q [] []).bind fun r => ret C (C.own f d) vs d st r.1 := callK_pure C call f d st dir 238 vs rfl
theorem K239 (call : Caller) (dir : Bool) (f : FuncId) (d : Tmp) (st : St) (vs : List PV) : callK C call dir f d st 239 vs = (lendAll C st.b st.m vs).bind fun q => (call 239 q [] []).bind fun r => ret C (C.own f d) vs d st r.1 := callK_pure C call f d st dir 239 vs rfl
theorem K240 (call : Caller) (dir : Bool) (f : FuncId) (d : Tmp) (st : St) (vs : List PV) : callK C call dir f d st 240 vs = (lendAll C st.b st.m vs).bind fun q => (call 240 q [] []).bind fun r => ret C (C.own f d) vs d st r.1 := callK_pure C call f d st dir 240 vs rfl
theorem K241 (call : Caller) (dir : Bool) (f : FuncId) (d : Tmp) (st : St) (vs : List PV) : callK C call dir f d st 241 vs = (lendAll C st.b st.m vs).bind fun q => (call 241 q [] []).bind fun r => ret C (C.own f d) vs d st r.1 := callK_pure C call f d st dir 241 vs rfl
theorem K242 (call : Caller) (dir : Bool) (f : FuncId) (d : Tmp) (st : St) (vs : List PV) : callK C call dir f d st 242 vs = (lendAll C st.b st.m vs).bind fun q => (call 242 q [] []).bind fun r => ret C (C.own f d) vs d st r.1 := callK_pure C call f d st dir 242 vs rfl
theorem K243 (call : Caller) (dir : Bool) (f : FuncId) (d : Tmp) (st : St) (vs : List PV) : callK C call dir f d st 243 vs = (lendAll C st.b st.m vs).bind fun q => (call 243 q [] []).bind fun r => ret C (C.own f d) vs d st r.1 := callK_pure C call f d st dir 243 vs rfl
theorem K244 (call : Caller) (dir : Bool) (f : FuncId) (d : Tmp) (st : St) (vs : List PV) : callK C call dir f d st 244 vs = (lendAll C st.b st.m vs).bind fun q => (call 244 q [] []).bind fun r => ret C (C.own f d) vs d st r.1 := callK_pure C call f d st dir 244 vs rfl
theorem K245 (call : Caller) (dir : Bool) (f : FuncId) (d : Tmp) (st : St) (vs : List PV) : callK C call dir f d st 245 vs = (lendAll C st.b st.m vs).bind fun q => (call 245 q [] []).bind fun r => ret C (C.own f d) vs d st r.1 := callK_pure C call f d st dir 245 vs rfl
theorem K246 (call : Caller) (dir : Bool) (f : FuncId) (d : Tmp) (st : St) (vs : List PV) : callK C call dir f d st 246 vs = (lendAll C st.b st.m vs).bind fun q => (call 246 q [] []).bind fun r => ret C (C.own f d) vs d st r.1 := callK_pure C call f d st dir 246 vs rfl
theorem K247 (call : Caller) (dir : Bool) (f : FuncId) (d : Tmp) (st : St) (vs : List PV) : callK C call dir f d st 247 vs = (lendAll C st.b st.m vs).bind fun q => (call 247 q [] []).bind fun r => ret C (C.own f d) vs d st r.1 := callK_pure C call f d st dir 247 vs rfl
theorem K248 (call : Caller) (dir : Bool) (f : FuncId) (d : Tmp) (st : St) (vs : List PV) : callK C call dir f d st 248 vs = (lendAll C st.b st.m vs).bind fun q => (call 248 q [] []).bind fun r => ret C (C.own f d) vs d st r.1 := callK_pure C call f d st dir 248 vs rfl
theorem K249 (call : Caller) (dir : Bool) (f : FuncId) (d : Tmp) (st : St) (vs : List PV) : callK C call dir f d st 249 vs = (lendAll C st.b st.m vs).bind fun q => (call 249 q [] []).bind fun r => ret C (C.own f d) vs d st r.1 := callK_pure C call f d st dir 249 vs rfl
theorem K250 (call : Caller) (dir : Bool) (f : FuncId) (d : Tmp) (st : St) (vs : List PV) : callK C call dir f d st 250 vs = (lendAll C st.b st.m vs).bind fun q => (call 250 q [] []).bind fun r => ret C (C.own f d) vs d st r.1 := callK_pure C call f d st dir 250 vs rfl
theorem K251 (call : Caller) (dir : Bool) (f : FuncId) (d : Tmp) (st : St) (vs : List PV) : callK C call dir f d st 251 vs = (lendAll C st.b st.m vs).bind fun q => (call 251 q [] []).bind fun r => ret C (C.own f d) vs d st r.1 := callK_pure C call f d st dir 251 vs rfl
theorem K255 (call : Caller) (dir : Bool) (f : FuncId) (d : Tmp) (st : St) (vs : List PV) : callK C call dir f d st 255 vs = (lendAll C st.b st.m vs).bind fun q => (call 255 q [] []).bind fun r => ret C (C.own f d) vs d st r.1 := callK_pure C call f d st dir 255 vs rfl
end Go.AI
/- Numbers, times, names. -/
namespace Go.AI
open Go Go.Proofs
attribute [local congr] bind_left map_left guardOn_congr condOn_congr
attribute [local simp] call_pure start run_seq run_region run_draw arrange run_cond run_block exec_ret exec_exit exec_skip ite_bind ite_map opsW_nil opsW_cons opsW_guard doOp_move doOp_assign doOp_pick doOp_load doOp_nilCheck doOp_fieldAddr doOp_indexAddr doOp_index doOp_slice doOp_binOp doOp_not doOp_neg doOp_convert doOp_extract doOp_build doOp_makeFunc doOp_len doOp_min doOp_max doOp_field doOp_alloc doOp_box doOp_store doOp_buildSlice doOp_makeSlice doOp_append doOp_call cutMk ret tidy sift closed okCell cellsT headOf
set_option maxRecDepth 100000
set_option maxHeartbeats 4000000
set_option linter.unusedSimpArgs false
set_option linter.unusedVariables false
def inB (lo hi x : Int) : Bool := decide (lo ≤ x) && decide (x ≤ hi)
theorem inB_iff {lo hi x : Int} : inB lo hi x = true ↔ lo ≤ x ∧ x ≤ hi := by simp [inB]
theorem inB_not {lo hi x : Int} : inB lo hi x = false ↔ ¬ (lo ≤ x ∧ x ≤ hi) := by rw [← inB_iff]; simp
theorem InRange_c (x lo hi : Int) : call C 106 [.int .i64 x, .int .i64 lo, .int .i64 hi] [] [] = some ([.bool (inB lo hi x)], [], []) := by
  rw [call_pure C (f := 106) (fn := Tryz.f106) (C_P ▸ Tryz.func106) rfl rfl]
  by_cases h0_ : lo ≤ x
  · simp (config := { maxSteps := 10000000 }) [C_ty, ty3, inB, h0_] <;> (first | omega | (simp_all; done) | skip)
  · simp (config := { maxSteps := 10000000 }) [C_ty, ty3, inB, h0_] <;> (first | omega | (simp_all; done) | skip)
theorem l1In_c (x lo hi : Int) : call C 132 [.int .i64 x, .int .i64 lo, .int .i64 hi] [] [] = some ([.bool (inB lo hi x)], [], []) := by
  rw [call_pure C (f := 132) (fn := Tryz.f132) (C_P ▸ Tryz.func132) rfl rfl]
  by_cases h0_ : lo ≤ x
  · simp (config := { maxSteps := 10000000 }) [C_ty, ty3, inB, h0_] <;> (first | omega | (simp_all; done) | skip)
  · simp (config := { maxSteps := 10000000 }) [C_ty, ty3, inB, h0_] <;> (first | omega | (simp_all; done) | skip)
def isTime (t : Int) : Bool := inB 0 10000 t
theorem IsTime_c (t : Int) : call C 109 [.int .i64 t] [] [] = some ([.bool (isTime t)], [], []) := by
  rw [call_pure C (f := 109) (fn := Tryz.f109) (C_P ▸ Tryz.func109) rfl rfl]
  simp (config := { maxSteps := 10000000 }) [C_ty, ty3, K106, C_own, own, InRange_c, isTime] <;> (first | omega | (simp_all; done) | skip)
theorem sIsTime_c (t : Int) : call C 142 [.int .i64 t] [] [] = some ([.bool (isTime t)], [], []) := by
  rw [call_pure C (f := 142) (fn := Tryz.f142) (C_P ▸ Tryz.func142) rfl rfl]
  simp (config := { maxSteps := 10000000 }) [C_ty, ty3, K132, C_own, own, l1In_c, isTime] <;> (first | omega | (simp_all; done) | skip)
def isName (t : Int) : Bool := inB 10 49 t
theorem IsName_c (t : Int) : call C 175 [.int .i64 t] [] [] = some ([.bool (isName t)], [], []) := by
  rw [call_pure C (f := 175) (fn := Tryz.f175) (C_P ▸ Tryz.func175) rfl rfl]
  simp (config := { maxSteps := 10000000 }) [C_ty, ty3, K106, C_own, own, InRange_c, isName] <;> (first | omega | (simp_all; done) | skip)
theorem sIsName_c (t : Int) : call C 190 [.int .i64 t] [] [] = some ([.bool (isName t)], [], []) := by
  rw [call_pure C (f := 190) (fn := Tryz.f190) (C_P ▸ Tryz.func190) rfl rfl]
  simp (config := { maxSteps := 10000000 }) [C_ty, ty3, K132, C_own, own, l1In_c, isName] <;> (first | omega | (simp_all; done) | skip)
theorem name_quo {n : Int} (h : isName n = true) : IntKind.i64.wrap (n.tdiv 10) = n / 10 := by
  have := inB_iff.1 h
  rw [wrap_small] <;> rw [Int.tdiv_eq_ediv_of_nonneg (by omega)] <;> omega
def nameKind (n : Int) : Int := if isName n then n / 10 else 0
theorem KindOf_c (n : Int) : call C 176 [.int .i64 n] [] [] = some ([.int .i64 (nameKind n)], [], []) := by
  rw [call_pure C (f := 176) (fn := Tryz.f176) (C_P ▸ Tryz.func176) rfl rfl]
  by_cases h0_ : isName n = true
  · simp (config := { maxSteps := 10000000 }) [C_ty, ty3, ty4, K175, C_own, own, IsName_c, nameKind, name_quo, h0_] <;> (first | omega | (simp_all; done) | skip)
  · simp (config := { maxSteps := 10000000 }) [C_ty, ty3, ty4, K175, C_own, own, IsName_c, nameKind, name_quo, h0_] <;> (first | omega | (simp_all; done) | skip)
def hasKind (n k : Int) : Bool := isName n && decide (n / 10 = k)
theorem HasKind_c (n k : Int) : call C 108 [.int .i64 n, .int .i64 k] [] [] = some ([.bool (hasKind n k)], [], []) := by
  rw [call_pure C (f := 108) (fn := Tryz.f108) (C_P ▸ Tryz.func108) rfl rfl]
  by_cases h0_ : isName n = true
  · simp (config := { maxSteps := 10000000 }) [C_ty, ty3, K175, K176, C_own, own, IsName_c, KindOf_c, hasKind, nameKind, h0_] <;> (first | omega | (simp_all; done) | skip)
  · simp (config := { maxSteps := 10000000 }) [C_ty, ty3, K175, K176, C_own, own, IsName_c, KindOf_c, hasKind, nameKind, h0_] <;> (first | omega | (simp_all; done) | skip)
theorem sHasKind_c (n k : Int) : call C 141 [.int .i64 n, .int .i64 k] [] [] = some ([.bool (hasKind n k)], [], []) := by
  rw [call_pure C (f := 141) (fn := Tryz.f141) (C_P ▸ Tryz.func141) rfl rfl]
  by_cases h0_ : isName n = true
  · simp (config := { maxSteps := 10000000 }) [C_ty, ty3, K190, C_own, own, sIsName_c, hasKind, name_quo, h0_] <;> (first | omega | (simp_all; done) | skip)
  · simp (config := { maxSteps := 10000000 }) [C_ty, ty3, K190, C_own, own, sIsName_c, hasKind, name_quo, h0_] <;> (first | omega | (simp_all; done) | skip)
def isWithin (a u n : Int) : Bool := isTime a && isTime u && isTime n && inB a u n
theorem IsWithin_c (a u n : Int) : call C 216 [.int .i64 a, .int .i64 u, .int .i64 n] [] [] = some ([.bool (isWithin a u n)], [], []) := by
  rw [call_pure C (f := 216) (fn := Tryz.f216) (C_P ▸ Tryz.func216) rfl rfl]
  by_cases h0_ : isTime a = true
  · by_cases h1_ : isTime u = true
    · by_cases h2_ : isTime n = true
      · simp (config := { maxSteps := 10000000 }) [C_ty, ty3, K106, K109, C_own, own, IsTime_c, InRange_c, isWithin, h0_, h1_, h2_] <;> (first | omega | (simp_all; done) | skip)
      · simp (config := { maxSteps := 10000000 }) [C_ty, ty3, K106, K109, C_own, own, IsTime_c, InRange_c, isWithin, h0_, h1_, h2_] <;> (first | omega | (simp_all; done) | skip)
    · simp (config := { maxSteps := 10000000 }) [C_ty, ty3, K106, K109, C_own, own, IsTime_c, InRange_c, isWithin, h0_, h1_] <;> (first | omega | (simp_all; done) | skip)
  · simp (config := { maxSteps := 10000000 }) [C_ty, ty3, K106, K109, C_own, own, IsTime_c, InRange_c, isWithin, h0_] <;> (first | omega | (simp_all; done) | skip)
theorem sIsWithin_c (a u n : Int) : call C 231 [.int .i64 a, .int .i64 u, .int .i64 n] [] [] = some ([.bool (isWithin a u n)], [], []) := by
  rw [call_pure C (f := 231) (fn := Tryz.f231) (C_P ▸ Tryz.func231) rfl rfl]
  by_cases h0_ : isTime a = true
  · by_cases h1_ : isTime u = true
    · by_cases h2_ : isTime n = true
      · by_cases h3_ : a ≤ n
        · simp (config := { maxSteps := 10000000 }) [C_ty, ty3, K142, C_own, own, sIsTime_c, isWithin, inB, h0_, h1_, h2_, h3_] <;> (first | omega | (simp_all; done) | skip)
        · simp (config := { maxSteps := 10000000 }) [C_ty, ty3, K142, C_own, own, sIsTime_c, isWithin, inB, h0_, h1_, h2_, h3_] <;> (first | omega | (simp_all; done) | skip)
      · simp (config := { maxSteps := 10000000 }) [C_ty, ty3, K142, C_own, own, sIsTime_c, isWithin, inB, h0_, h1_, h2_] <;> (first | omega | (simp_all; done) | skip)
    · simp (config := { maxSteps := 10000000 }) [C_ty, ty3, K142, C_own, own, sIsTime_c, isWithin, inB, h0_, h1_] <;> (first | omega | (simp_all; done) | skip)
  · simp (config := { maxSteps := 10000000 }) [C_ty, ty3, K142, C_own, own, sIsTime_c, isWithin, inB, h0_] <;> (first | omega | (simp_all; done) | skip)
def ageOf (a n : Int) : Int := if isTime a = true ∧ isTime n = true ∧ a ≤ n then n - a else -1
theorem age_wrap {a n : Int} (h1 : isTime a = true) (h2 : isTime n = true) : IntKind.i64.wrap (n - a) = n - a := by
  have := inB_iff.1 h1
  have := inB_iff.1 h2
  exact wrap_small (by omega) (by omega)
theorem AgeOf_c (a n : Int) : call C 217 [.int .i64 a, .int .i64 n] [] [] = some ([.int .i64 (ageOf a n)], [], []) := by
  rw [call_pure C (f := 217) (fn := Tryz.f217) (C_P ▸ Tryz.func217) rfl rfl]
  by_cases h0_ : isTime a = true
  · by_cases h1_ : isTime n = true
    · by_cases h2_ : n < a
      · simp (config := { maxSteps := 10000000 }) [C_ty, ty3, ty4, K109, C_own, own, IsTime_c, ageOf, age_wrap, h0_, h1_, h2_] <;> (first | omega | (simp_all; done) | skip)
      · simp (config := { maxSteps := 10000000 }) [C_ty, ty3, ty4, K109, C_own, own, IsTime_c, ageOf, age_wrap, h0_, h1_, h2_] <;> (first | omega | (simp_all; done) | skip)
    · simp (config := { maxSteps := 10000000 }) [C_ty, ty3, ty4, K109, C_own, own, IsTime_c, ageOf, age_wrap, h0_, h1_] <;> (first | omega | (simp_all; done) | skip)
  · simp (config := { maxSteps := 10000000 }) [C_ty, ty3, ty4, K109, C_own, own, IsTime_c, ageOf, age_wrap, h0_] <;> (first | omega | (simp_all; done) | skip)
theorem sAgeOf_c (a n : Int) : call C 238 [.int .i64 a, .int .i64 n] [] [] = some ([.int .i64 (ageOf a n)], [], []) := by
  rw [call_pure C (f := 238) (fn := Tryz.f238) (C_P ▸ Tryz.func238) rfl rfl]
  by_cases h0_ : isTime a = true
  · by_cases h1_ : isTime n = true
    · by_cases h2_ : n < a
      · simp (config := { maxSteps := 10000000 }) [C_ty, ty3, ty4, K142, C_own, own, sIsTime_c, ageOf, age_wrap, h0_, h1_, h2_] <;> (first | omega | (simp_all; done) | skip)
      · simp (config := { maxSteps := 10000000 }) [C_ty, ty3, ty4, K142, C_own, own, sIsTime_c, ageOf, age_wrap, h0_, h1_, h2_] <;> (first | omega | (simp_all; done) | skip)
    · simp (config := { maxSteps := 10000000 }) [C_ty, ty3, ty4, K142, C_own, own, sIsTime_c, ageOf, age_wrap, h0_, h1_] <;> (first | omega | (simp_all; done) | skip)
  · simp (config := { maxSteps := 10000000 }) [C_ty, ty3, ty4, K142, C_own, own, sIsTime_c, ageOf, age_wrap, h0_] <;> (first | omega | (simp_all; done) | skip)
def isFresh (a n m : Int) : Bool := decide (0 ≤ ageOf a n) && decide (ageOf a n ≤ m)
theorem sIsFresh_c (a n m : Int) : call C 232 [.int .i64 a, .int .i64 n, .int .i64 m] [] [] = some ([.bool (isFresh a n m)], [], []) := by
  rw [call_pure C (f := 232) (fn := Tryz.f232) (C_P ▸ Tryz.func232) rfl rfl]
  by_cases h0_ : 0 ≤ ageOf a n
  · simp (config := { maxSteps := 10000000 }) [C_ty, ty3, K238, C_own, own, sAgeOf_c, isFresh, h0_] <;> (first | omega | (simp_all; done) | skip)
  · simp (config := { maxSteps := 10000000 }) [C_ty, ty3, K238, C_own, own, sAgeOf_c, isFresh, h0_] <;> (first | omega | (simp_all; done) | skip)
end Go.AI
/- Facts. -/
namespace Go.AI
open Go Go.Proofs
attribute [local congr] bind_left map_left guardOn_congr condOn_congr
attribute [local simp] call_pure start run_seq run_region run_draw arrange run_cond run_block exec_ret exec_exit exec_skip ite_bind ite_map opsW_nil opsW_cons opsW_guard doOp_move doOp_assign doOp_pick doOp_load doOp_nilCheck doOp_fieldAddr doOp_indexAddr doOp_index doOp_slice doOp_binOp doOp_not doOp_neg doOp_convert doOp_extract doOp_build doOp_makeFunc doOp_len doOp_min doOp_max doOp_field doOp_alloc doOp_box doOp_store doOp_buildSlice doOp_makeSlice doOp_append doOp_call cutMk ret tidy sift closed okCell cellsT headOf
set_option maxRecDepth 100000
set_option maxHeartbeats 4000000
set_option linter.unusedSimpArgs false
set_option linter.unusedVariables false
structure Fa where
  (k s v i a u : Int)
deriving DecidableEq
def Fa.c (f : Fa) : List PV := [.int .i64 f.k, .int .i64 f.s, .int .i64 f.v, .int .i64 f.i, .int .i64 f.a, .int .i64 f.u]
def isClaim (f : Fa) : Bool := if f.k = 1 then hasKind f.s 1 && inB 0 5 f.v else if f.k = 2 then hasKind f.s 1 && hasKind f.v 2 else if f.k = 3 then hasKind f.s 2 && inB 0 3 f.v else if f.k = 4 then hasKind f.s 3 && inB 0 3 f.v else false
theorem isClaim_c (f : Fa) : call C 229 [.agg f.c] [] [] = some ([.bool (isClaim f)], [], []) := by
  rw [call_pure C (f := 229) (fn := Tryz.f229) (C_P ▸ Tryz.func229) rfl rfl]
  by_cases h0_ : f.k = 1
  · by_cases h1_ : hasKind f.s 1 = true
    · simp (config := { maxSteps := 10000000 }) [C_ty, ty3, ty134, K106, K108, C_own, own, isClaim, Fa.c, HasKind_c, InRange_c, h0_, h1_] <;> (first | omega | (simp_all; done) | skip)
    · simp (config := { maxSteps := 10000000 }) [C_ty, ty3, ty134, K106, K108, C_own, own, isClaim, Fa.c, HasKind_c, InRange_c, h0_, h1_] <;> (first | omega | (simp_all; done) | skip)
  · by_cases h1_ : f.k = 2
    · by_cases h2_ : hasKind f.s 1 = true
      · simp (config := { maxSteps := 10000000 }) [C_ty, ty3, ty134, K106, K108, C_own, own, isClaim, Fa.c, HasKind_c, InRange_c, h0_, h1_, h2_] <;> (first | omega | (simp_all; done) | skip)
      · simp (config := { maxSteps := 10000000 }) [C_ty, ty3, ty134, K106, K108, C_own, own, isClaim, Fa.c, HasKind_c, InRange_c, h0_, h1_, h2_] <;> (first | omega | (simp_all; done) | skip)
    · by_cases h2_ : f.k = 3
      · by_cases h3_ : hasKind f.s 2 = true
        · simp (config := { maxSteps := 10000000 }) [C_ty, ty3, ty134, K106, K108, C_own, own, isClaim, Fa.c, HasKind_c, InRange_c, h0_, h1_, h2_, h3_] <;> (first | omega | (simp_all; done) | skip)
        · simp (config := { maxSteps := 10000000 }) [C_ty, ty3, ty134, K106, K108, C_own, own, isClaim, Fa.c, HasKind_c, InRange_c, h0_, h1_, h2_, h3_] <;> (first | omega | (simp_all; done) | skip)
      · by_cases h3_ : f.k = 4
        · by_cases h4_ : hasKind f.s 3 = true
          · simp (config := { maxSteps := 10000000 }) [C_ty, ty3, ty134, K106, K108, C_own, own, isClaim, Fa.c, HasKind_c, InRange_c, h0_, h1_, h2_, h3_, h4_] <;> (first | omega | (simp_all; done) | skip)
          · simp (config := { maxSteps := 10000000 }) [C_ty, ty3, ty134, K106, K108, C_own, own, isClaim, Fa.c, HasKind_c, InRange_c, h0_, h1_, h2_, h3_, h4_] <;> (first | omega | (simp_all; done) | skip)
        · simp (config := { maxSteps := 10000000 }) [C_ty, ty3, ty134, K106, K108, C_own, own, isClaim, Fa.c, HasKind_c, InRange_c, h0_, h1_, h2_, h3_] <;> (first | omega | (simp_all; done) | skip)
def isFact (f : Fa) : Bool := isClaim f && inB 0 9 f.i && isTime f.a && isTime f.u && decide (f.a ≤ f.u)
theorem IsFact_c (f : Fa) : call C 215 [.agg f.c] [] [] = some ([.bool (isFact f)], [], []) := by
  have h := isClaim_c f
  simp only [Fa.c] at h
  rw [call_pure C (f := 215) (fn := Tryz.f215) (C_P ▸ Tryz.func215) rfl rfl]
  by_cases h0_ : isClaim f = true
  · by_cases h1_ : inB 0 9 f.i = true
    · by_cases h2_ : isTime f.a = true
      · by_cases h3_ : isTime f.u = true
        · simp (config := { maxSteps := 10000000 }) [C_ty, ty3, ty134, K106, K109, K229, C_own, own, isFact, Fa.c, h, InRange_c, IsTime_c, h0_, h1_, h2_, h3_] <;> (first | omega | (simp_all; done) | skip)
        · simp (config := { maxSteps := 10000000 }) [C_ty, ty3, ty134, K106, K109, K229, C_own, own, isFact, Fa.c, h, InRange_c, IsTime_c, h0_, h1_, h2_, h3_] <;> (first | omega | (simp_all; done) | skip)
      · simp (config := { maxSteps := 10000000 }) [C_ty, ty3, ty134, K106, K109, K229, C_own, own, isFact, Fa.c, h, InRange_c, IsTime_c, h0_, h1_, h2_] <;> (first | omega | (simp_all; done) | skip)
    · simp (config := { maxSteps := 10000000 }) [C_ty, ty3, ty134, K106, K109, K229, C_own, own, isFact, Fa.c, h, InRange_c, IsTime_c, h0_, h1_] <;> (first | omega | (simp_all; done) | skip)
  · simp (config := { maxSteps := 10000000 }) [C_ty, ty3, ty134, K106, K109, K229, C_own, own, isFact, Fa.c, h, InRange_c, IsTime_c, h0_] <;> (first | omega | (simp_all; done) | skip)
theorem sIsFact_c (f : Fa) : call C 203 [.agg f.c] [] [] = some ([.bool (isFact f)], [], []) := by
  have hk : isFact f = (isClaim f && inB 0 9 f.i && isTime f.a && isTime f.u && decide (f.a ≤ f.u)) := rfl
  rw [call_pure C (f := 203) (fn := Tryz.f203) (C_P ▸ Tryz.func203) rfl rfl]
  by_cases h0_ : f.k = 1
  · by_cases h1_ : hasKind f.s 1 = true
    · by_cases h2_ : inB 0 5 f.v = true
      · by_cases h3_ : inB 0 9 f.i = true
        · by_cases h4_ : isTime f.a = true
          · by_cases h5_ : isTime f.u = true
            · simp (config := { maxSteps := 10000000 }) [C_ty, ty3, ty134, K132, K141, K142, C_own, own, hk, isClaim, Fa.c, sHasKind_c, l1In_c, sIsTime_c, h0_, h1_, h2_, h3_, h4_, h5_] <;> (first | omega | (simp_all; done) | skip)
            · simp (config := { maxSteps := 10000000 }) [C_ty, ty3, ty134, K132, K141, K142, C_own, own, hk, isClaim, Fa.c, sHasKind_c, l1In_c, sIsTime_c, h0_, h1_, h2_, h3_, h4_, h5_] <;> (first | omega | (simp_all; done) | skip)
          · simp (config := { maxSteps := 10000000 }) [C_ty, ty3, ty134, K132, K141, K142, C_own, own, hk, isClaim, Fa.c, sHasKind_c, l1In_c, sIsTime_c, h0_, h1_, h2_, h3_, h4_] <;> (first | omega | (simp_all; done) | skip)
        · simp (config := { maxSteps := 10000000 }) [C_ty, ty3, ty134, K132, K141, K142, C_own, own, hk, isClaim, Fa.c, sHasKind_c, l1In_c, sIsTime_c, h0_, h1_, h2_, h3_] <;> (first | omega | (simp_all; done) | skip)
      · simp (config := { maxSteps := 10000000 }) [C_ty, ty3, ty134, K132, K141, K142, C_own, own, hk, isClaim, Fa.c, sHasKind_c, l1In_c, sIsTime_c, h0_, h1_, h2_] <;> (first | omega | (simp_all; done) | skip)
    · simp (config := { maxSteps := 10000000 }) [C_ty, ty3, ty134, K132, K141, K142, C_own, own, hk, isClaim, Fa.c, sHasKind_c, l1In_c, sIsTime_c, h0_, h1_] <;> (first | omega | (simp_all; done) | skip)
  · by_cases h1_ : f.k = 2
    · by_cases h2_ : hasKind f.s 1 = true
      · by_cases h3_ : hasKind f.v 2 = true
        · by_cases h4_ : inB 0 9 f.i = true
          · by_cases h5_ : isTime f.a = true
            · by_cases h6_ : isTime f.u = true
              · simp (config := { maxSteps := 10000000 }) [C_ty, ty3, ty134, K132, K141, K142, C_own, own, hk, isClaim, Fa.c, sHasKind_c, l1In_c, sIsTime_c, h0_, h1_, h2_, h3_, h4_, h5_, h6_] <;> (first | omega | (simp_all; done) | skip)
              · simp (config := { maxSteps := 10000000 }) [C_ty, ty3, ty134, K132, K141, K142, C_own, own, hk, isClaim, Fa.c, sHasKind_c, l1In_c, sIsTime_c, h0_, h1_, h2_, h3_, h4_, h5_, h6_] <;> (first | omega | (simp_all; done) | skip)
            · simp (config := { maxSteps := 10000000 }) [C_ty, ty3, ty134, K132, K141, K142, C_own, own, hk, isClaim, Fa.c, sHasKind_c, l1In_c, sIsTime_c, h0_, h1_, h2_, h3_, h4_, h5_] <;> (first | omega | (simp_all; done) | skip)
          · simp (config := { maxSteps := 10000000 }) [C_ty, ty3, ty134, K132, K141, K142, C_own, own, hk, isClaim, Fa.c, sHasKind_c, l1In_c, sIsTime_c, h0_, h1_, h2_, h3_, h4_] <;> (first | omega | (simp_all; done) | skip)
        · simp (config := { maxSteps := 10000000 }) [C_ty, ty3, ty134, K132, K141, K142, C_own, own, hk, isClaim, Fa.c, sHasKind_c, l1In_c, sIsTime_c, h0_, h1_, h2_, h3_] <;> (first | omega | (simp_all; done) | skip)
      · simp (config := { maxSteps := 10000000 }) [C_ty, ty3, ty134, K132, K141, K142, C_own, own, hk, isClaim, Fa.c, sHasKind_c, l1In_c, sIsTime_c, h0_, h1_, h2_] <;> (first | omega | (simp_all; done) | skip)
    · by_cases h2_ : f.k = 3
      · by_cases h3_ : hasKind f.s 2 = true
        · by_cases h4_ : inB 0 3 f.v = true
          · by_cases h5_ : inB 0 9 f.i = true
            · by_cases h6_ : isTime f.a = true
              · by_cases h7_ : isTime f.u = true
                · simp (config := { maxSteps := 10000000 }) [C_ty, ty3, ty134, K132, K141, K142, C_own, own, hk, isClaim, Fa.c, sHasKind_c, l1In_c, sIsTime_c, h0_, h1_, h2_, h3_, h4_, h5_, h6_, h7_] <;> (first | omega | (simp_all; done) | skip)
                · simp (config := { maxSteps := 10000000 }) [C_ty, ty3, ty134, K132, K141, K142, C_own, own, hk, isClaim, Fa.c, sHasKind_c, l1In_c, sIsTime_c, h0_, h1_, h2_, h3_, h4_, h5_, h6_, h7_] <;> (first | omega | (simp_all; done) | skip)
              · simp (config := { maxSteps := 10000000 }) [C_ty, ty3, ty134, K132, K141, K142, C_own, own, hk, isClaim, Fa.c, sHasKind_c, l1In_c, sIsTime_c, h0_, h1_, h2_, h3_, h4_, h5_, h6_] <;> (first | omega | (simp_all; done) | skip)
            · simp (config := { maxSteps := 10000000 }) [C_ty, ty3, ty134, K132, K141, K142, C_own, own, hk, isClaim, Fa.c, sHasKind_c, l1In_c, sIsTime_c, h0_, h1_, h2_, h3_, h4_, h5_] <;> (first | omega | (simp_all; done) | skip)
          · simp (config := { maxSteps := 10000000 }) [C_ty, ty3, ty134, K132, K141, K142, C_own, own, hk, isClaim, Fa.c, sHasKind_c, l1In_c, sIsTime_c, h0_, h1_, h2_, h3_, h4_] <;> (first | omega | (simp_all; done) | skip)
        · simp (config := { maxSteps := 10000000 }) [C_ty, ty3, ty134, K132, K141, K142, C_own, own, hk, isClaim, Fa.c, sHasKind_c, l1In_c, sIsTime_c, h0_, h1_, h2_, h3_] <;> (first | omega | (simp_all; done) | skip)
      · by_cases h3_ : f.k = 4
        · by_cases h4_ : hasKind f.s 3 = true
          · by_cases h5_ : inB 0 3 f.v = true
            · by_cases h6_ : inB 0 9 f.i = true
              · by_cases h7_ : isTime f.a = true
                · by_cases h8_ : isTime f.u = true
                  · simp (config := { maxSteps := 10000000 }) [C_ty, ty3, ty134, K132, K141, K142, C_own, own, hk, isClaim, Fa.c, sHasKind_c, l1In_c, sIsTime_c, h0_, h1_, h2_, h3_, h4_, h5_, h6_, h7_, h8_] <;> (first | omega | (simp_all; done) | skip)
                  · simp (config := { maxSteps := 10000000 }) [C_ty, ty3, ty134, K132, K141, K142, C_own, own, hk, isClaim, Fa.c, sHasKind_c, l1In_c, sIsTime_c, h0_, h1_, h2_, h3_, h4_, h5_, h6_, h7_, h8_] <;> (first | omega | (simp_all; done) | skip)
                · simp (config := { maxSteps := 10000000 }) [C_ty, ty3, ty134, K132, K141, K142, C_own, own, hk, isClaim, Fa.c, sHasKind_c, l1In_c, sIsTime_c, h0_, h1_, h2_, h3_, h4_, h5_, h6_, h7_] <;> (first | omega | (simp_all; done) | skip)
              · simp (config := { maxSteps := 10000000 }) [C_ty, ty3, ty134, K132, K141, K142, C_own, own, hk, isClaim, Fa.c, sHasKind_c, l1In_c, sIsTime_c, h0_, h1_, h2_, h3_, h4_, h5_, h6_] <;> (first | omega | (simp_all; done) | skip)
            · simp (config := { maxSteps := 10000000 }) [C_ty, ty3, ty134, K132, K141, K142, C_own, own, hk, isClaim, Fa.c, sHasKind_c, l1In_c, sIsTime_c, h0_, h1_, h2_, h3_, h4_, h5_] <;> (first | omega | (simp_all; done) | skip)
          · simp (config := { maxSteps := 10000000 }) [C_ty, ty3, ty134, K132, K141, K142, C_own, own, hk, isClaim, Fa.c, sHasKind_c, l1In_c, sIsTime_c, h0_, h1_, h2_, h3_, h4_] <;> (first | omega | (simp_all; done) | skip)
        · simp (config := { maxSteps := 10000000 }) [C_ty, ty3, ty134, K132, K141, K142, C_own, own, hk, isClaim, Fa.c, sHasKind_c, l1In_c, sIsTime_c, h0_, h1_, h2_, h3_] <;> (first | omega | (simp_all; done) | skip)
def holdsAt (f : Fa) (now age : Int) : Bool := isFact f && isWithin f.a f.u now && decide (ageOf f.a now ≤ age)
theorem HoldsAt_c (f : Fa) (now age : Int) : call C 184 [.agg f.c, .int .i64 now, .int .i64 age] [] [] = some ([.bool (holdsAt f now age)], [], []) := by
  have h := IsFact_c f
  simp only [Fa.c] at h
  rw [call_pure C (f := 184) (fn := Tryz.f184) (C_P ▸ Tryz.func184) rfl rfl]
  by_cases h0_ : isFact f = true
  · by_cases h1_ : isWithin f.a f.u now = true
    · simp (config := { maxSteps := 10000000 }) [C_ty, ty3, ty134, K215, K216, K217, C_own, own, holdsAt, Fa.c, h, IsWithin_c, AgeOf_c, h0_, h1_] <;> (first | omega | (simp_all; done) | skip)
    · simp (config := { maxSteps := 10000000 }) [C_ty, ty3, ty134, K215, K216, K217, C_own, own, holdsAt, Fa.c, h, IsWithin_c, AgeOf_c, h0_, h1_] <;> (first | omega | (simp_all; done) | skip)
  · simp (config := { maxSteps := 10000000 }) [C_ty, ty3, ty134, K215, K216, K217, C_own, own, holdsAt, Fa.c, h, IsWithin_c, AgeOf_c, h0_] <;> (first | omega | (simp_all; done) | skip)
theorem within_age {a u n : Int} (h : isWithin a u n = true) : 0 ≤ ageOf a n := by
  simp only [isWithin, Bool.and_eq_true] at h
  have := inB_iff.1 h.2
  rw [ageOf, if_pos ⟨h.1.1.1, h.1.2, this.1⟩]
  omega
theorem sHoldsAt_c (f : Fa) (now age : Int) : call C 220 [.agg f.c, .int .i64 now, .int .i64 age] [] [] = some ([.bool (holdsAt f now age)], [], []) := by
  have h := sIsFact_c f
  simp only [Fa.c] at h
  have hw := @within_age f.a f.u now
  have e : isWithin f.a f.u now = true → isFresh f.a now age = decide (ageOf f.a now ≤ age) := fun hh => by simp [isFresh, hw hh]
  rw [call_pure C (f := 220) (fn := Tryz.f220) (C_P ▸ Tryz.func220) rfl rfl]
  by_cases h0_ : isFact f = true
  · by_cases h1_ : isWithin f.a f.u now = true
    · simp (config := { maxSteps := 10000000 }) [C_ty, ty3, ty134, K203, K231, K232, C_own, own, holdsAt, Fa.c, h, sIsWithin_c, sIsFresh_c, e, h0_, h1_] <;> (first | omega | (simp_all; done) | skip)
    · simp (config := { maxSteps := 10000000 }) [C_ty, ty3, ty134, K203, K231, K232, C_own, own, holdsAt, Fa.c, h, sIsWithin_c, sIsFresh_c, e, h0_, h1_] <;> (first | omega | (simp_all; done) | skip)
  · simp (config := { maxSteps := 10000000 }) [C_ty, ty3, ty134, K203, K231, K232, C_own, own, holdsAt, Fa.c, h, sIsWithin_c, sIsFresh_c, e, h0_] <;> (first | omega | (simp_all; done) | skip)
theorem HoldsAt_v (k s v i a u now age : Int) : call C 184 [.agg [.int .i64 k, .int .i64 s, .int .i64 v, .int .i64 i, .int .i64 a, .int .i64 u], .int .i64 now, .int .i64 age] [] [] = some ([.bool (holdsAt ⟨k, s, v, i, a, u⟩ now age)], [], []) := HoldsAt_c ⟨k, s, v, i, a, u⟩ now age
theorem sHoldsAt_v (k s v i a u now age : Int) : call C 220 [.agg [.int .i64 k, .int .i64 s, .int .i64 v, .int .i64 i, .int .i64 a, .int .i64 u], .int .i64 now, .int .i64 age] [] [] = some ([.bool (holdsAt ⟨k, s, v, i, a, u⟩ now age)], [], []) := sHoldsAt_c ⟨k, s, v, i, a, u⟩ now age
end Go.AI
/- Searching. -/
namespace Go.AI
open Go Go.Proofs
attribute [local congr] bind_left map_left guardOn_congr condOn_congr
attribute [local simp] call_pure start run_seq run_region run_draw arrange run_cond run_block exec_ret exec_exit exec_skip ite_bind ite_map opsW_nil opsW_cons opsW_guard doOp_move doOp_assign doOp_pick doOp_load doOp_nilCheck doOp_fieldAddr doOp_indexAddr doOp_index doOp_slice doOp_binOp doOp_not doOp_neg doOp_convert doOp_extract doOp_build doOp_makeFunc doOp_len doOp_min doOp_max doOp_field doOp_alloc doOp_box doOp_store doOp_buildSlice doOp_makeSlice doOp_append doOp_call cutMk ret tidy sift closed okCell cellsT headOf
set_option maxRecDepth 100000
set_option maxHeartbeats 4000000
set_option linter.unusedSimpArgs false
set_option linter.unusedVariables false
theorem row_get {l : List Int} {i : Nat} (h : i < l.length) : (intRow l)[i]? = some [.int .i64 l[i]] := by simp [intRow, h]
theorem row_len (l : List Int) : (intRow l).length = l.length := by simp [intRow]
/-- The first place, or -1. -/
def placeOf (p : Nat → Bool) (n : Nat) : Int := if stop p n < n then stop p n else -1
theorem Index_c (l : List Int) (x : Int) (hl : l.length < 9223372036854775807) : call C 182 [.arr 1 (intRow l), .int .i64 x] [] [] = some ([.int .i64 (placeOf (fun i => decide (l[i]? = some x)) l.length)], [], []) := by
  rw [call_pure C (f := 182) (fn := Tryz.f182) (C_P ▸ Tryz.func182) rfl rfl]
  simp (config := { maxSteps := 10000000 }) [C_ty, ty3, ty32, C_live, C_keep, keep, live182_2, row_len] <;> (first | omega | (simp_all; done) | skip)
  rw [loop_stop C 182 (J := fun i => ⟨[(8, .int .i64 i), (7, .int .i64 l.length), (1, .int .i64 x), (0, .arr 1 (intRow l))], [], []⟩) (n := l.length) (p := fun i => decide (l[i]? = some x)) (h0 := ?h0) (step := ?step)]
  case h0 => simp (config := { maxSteps := 10000000 }) [C_ty, ty3, ty32, C_live, C_keep, keep, live182_2] <;> (first | omega | (simp_all; done) | skip)
  case step =>
    intro i hi hp
    have hw := wrap_nat (i := i) (by omega)
    have hg := row_get hi
    have hne : ¬ (x = l[i]) := by simpa [hi, eq_comm] using hp
    simp (config := { maxSteps := 10000000 }) [C_ty, ty3, ty32, C_live, C_keep, keep, live182_2, hi, hw, hg, hne] <;> (first | omega | (simp_all; done) | skip)
  unfold placeOf
  generalize hs : stop (fun i => decide (l[i]? = some x)) l.length = i
  have hle := stop_le (fun i => decide (l[i]? = some x)) l.length
  rw [hs] at hle
  by_cases hi : i < l.length
  · have hp := stop_hit (p := fun i => decide (l[i]? = some x)) (n := l.length) (by omega)
    rw [hs] at hp
    have hg := row_get hi
    have he : x = l[i] := by simpa [hi, eq_comm] using hp
    simp (config := { maxSteps := 10000000 }) [C_ty, ty3, ty32, C_live, C_keep, keep, live182_2, hi, hg, he] <;> (first | omega | (simp_all; done) | skip)
  · simp (config := { maxSteps := 10000000 }) [C_ty, ty3, ty32, C_live, C_keep, keep, live182_2, hi] <;> (first | omega | (simp_all; done) | skip)
end Go.AI
/- Conditions: trees. -/
namespace Go.AI
open Go Go.Proofs
attribute [local congr] bind_left map_left guardOn_congr condOn_congr
attribute [local simp] call_pure start run_seq run_region run_draw arrange run_cond run_block exec_ret exec_exit exec_skip ite_bind ite_map opsW_nil opsW_cons opsW_guard doOp_move doOp_assign doOp_pick doOp_load doOp_nilCheck doOp_fieldAddr doOp_indexAddr doOp_index doOp_slice doOp_binOp doOp_not doOp_neg doOp_convert doOp_extract doOp_build doOp_makeFunc doOp_len doOp_min doOp_max doOp_field doOp_alloc doOp_box doOp_store doOp_buildSlice doOp_makeSlice doOp_append doOp_call cutMk ret tidy sift closed okCell cellsT headOf
set_option maxRecDepth 100000
set_option maxHeartbeats 4000000
set_option linter.unusedSimpArgs false
set_option linter.unusedVariables false
inductive Tr where
  | node (op a b : Int) (ts : List Tr)
def Tr.op : Tr → Int
  | .node o _ _ _ => o
def Tr.a : Tr → Int
  | .node _ a _ _ => a
def Tr.b : Tr → Int
  | .node _ _ b _ => b
def Tr.ts : Tr → List Tr
  | .node _ _ _ ts => ts
mutual
def Tr.c : Tr → List PV
  | .node op a b ts => [.int .i64 op, .int .i64 a, .int .i64 b, .arr 4 (Tr.cs ts)]
def Tr.cs : List Tr → List (List PV)
  | [] => []
  | t :: r => Tr.c t :: Tr.cs r
end
theorem Tr.c_eq (t : Tr) : t.c = [.int .i64 t.op, .int .i64 t.a, .int .i64 t.b, .arr 4 (Tr.cs t.ts)] := by
  cases t
  simp only [Tr.c, Tr.op, Tr.a, Tr.b, Tr.ts]
theorem Tr.cs_map : ∀ l : List Tr, Tr.cs l = l.map Tr.c
  | [] => by simp [Tr.cs]
  | t :: l => by simp [Tr.cs, Tr.cs_map l]
theorem Tr.cs_len (l : List Tr) : (Tr.cs l).length = l.length := by rw [Tr.cs_map, List.length_map]
theorem Tr.cs_get {l : List Tr} {i : Nat} (h : i < l.length) : (Tr.cs l)[i]? = some [.int .i64 l[i].op, .int .i64 l[i].a, .int .i64 l[i].b, .arr 4 (Tr.cs l[i].ts)] := by
  rw [Tr.cs_map, List.getElem?_map, List.getElem?_eq_getElem h, Option.map_some, Tr.c_eq]
theorem Tr.cs_at {l : List Tr} {i : Nat} (h : i < (Tr.cs l).length) : (Tr.cs l)[i] = [.int .i64 (l[i]'(by rw [Tr.cs_len] at h; exact h)).op, .int .i64 (l[i]'(by rw [Tr.cs_len] at h; exact h)).a, .int .i64 (l[i]'(by rw [Tr.cs_len] at h; exact h)).b, .arr 4 (Tr.cs (l[i]'(by rw [Tr.cs_len] at h; exact h)).ts)] := by
  have h' : i < l.length := by rw [Tr.cs_len] at h; exact h
  have := Tr.cs_get h'
  rw [List.getElem?_eq_getElem h] at this
  exact Option.some.inj this
mutual
def Tr.size : Tr → Nat
  | .node _ _ _ ts => 1 + Tr.sizes ts
def Tr.sizes : List Tr → Nat
  | [] => 0
  | t :: r => Tr.size t + Tr.sizes r
end
theorem Tr.size_eq (t : Tr) : t.size = 1 + Tr.sizes t.ts := by cases t; simp only [Tr.size, Tr.ts]
theorem Tr.sizes_take : ∀ (l : List Tr) (i : Nat) (h : i < l.length), Tr.sizes (l.take (i + 1)) = Tr.sizes (l.take i) + l[i].size
  | t :: l, 0, _ => by simp [Tr.sizes]
  | t :: l, i + 1, h => by
    have := Tr.sizes_take l i (by simpa using h)
    simp only [List.take_succ_cons, Tr.sizes, List.getElem_cons_succ, this]
    omega
theorem Tr.sizes_le : ∀ (l : List Tr) (i : Nat), Tr.sizes (l.take i) ≤ Tr.sizes l
  | [], i => by simp
  | t :: l, 0 => by simp [Tr.sizes]
  | t :: l, i + 1 => by
    have := Tr.sizes_le l i
    simp only [List.take_succ_cons, Tr.sizes]
    omega
theorem Tr.size_pos (t : Tr) : 0 < t.size := by rw [Tr.size_eq]; omega
theorem Tr.len_le : ∀ l : List Tr, l.length ≤ Tr.sizes l
  | [] => by simp
  | t :: l => by
    have := Tr.len_le l
    have := t.size_pos
    simp only [List.length_cons, Tr.sizes]
    omega
theorem Tr.size_mem {l : List Tr} {x : Tr} (h : x ∈ l) : x.size ≤ Tr.sizes l := by
  induction l with
  | nil => cases h
  | cons t l ih =>
    simp only [Tr.sizes]
    rcases List.mem_cons.1 h with rfl | h
    · omega
    · have := ih h; omega
theorem Tr.ind {P : Tr → Prop} (h : ∀ t : Tr, (∀ x ∈ t.ts, P x) → P t) (t : Tr) : P t := by
  generalize hn : t.size = n
  induction n using Nat.strongRecOn generalizing t with
  | _ n ih =>
    refine h t fun x hx => ih x.size ?_ x rfl
    have := Tr.size_mem hx
    have := t.size_eq
    omega
theorem SizeOf_c (t : Tr) : t.size < 4611686018427387904 → call C 128 [.agg t.c] [] [] = some ([.int .i64 t.size], [], []) := by
  induction t using Tr.ind with
  | _ t ih =>
  intro hsz
  have hse := t.size_eq
  have hlen := Tr.len_le t.ts
  rw [call_pure C (f := 128) (fn := Tryz.f128) (C_P ▸ Tryz.func128) rfl rfl]
  simp (config := { maxSteps := 10000000 }) [C_ty, ty3, ty59, ty61, K128, C_own, own, C_live, C_keep, keep, live128_3, Tr.c_eq t, Tr.cs_len] <;> (first | omega | (simp_all; done) | skip)
  rw [loop_to C 128 (J := fun i => ⟨[(9, .int .i64 i), (8, .int .i64 t.ts.length), (7, .arr 4 (Tr.cs t.ts)), (3, .int .i64 (1 + Tr.sizes (t.ts.take i) : Nat))], [], []⟩) (n := t.ts.length) (h0 := ?h0) (step := ?step)]
  case h0 => simp (config := { maxSteps := 10000000 }) [C_ty, ty3, ty59, ty61, K128, C_own, own, C_live, C_keep, keep, live128_3, Tr.sizes] <;> (first | omega | (simp_all; done) | skip)
  case step =>
    intro i hi
    have hw := wrap_nat (i := i) (by omega)
    have hg := Tr.cs_get hi
    have hle := Tr.sizes_le t.ts (i + 1)
    have htk := Tr.sizes_take t.ts i hi
    have hc := ih t.ts[i] (List.getElem_mem hi) (by omega)
    simp only [Tr.c_eq] at hc
    have hw2 : IntKind.i64.wrap (1 + (Tr.sizes (t.ts.take i) : Int) + (t.ts[i].size : Int)) = 1 + (Tr.sizes (t.ts.take (i + 1)) : Int) := by
      rw [wrap_small] <;> omega
    simp (config := { maxSteps := 10000000 }) [C_ty, ty3, ty59, ty61, K128, C_own, own, C_live, C_keep, keep, live128_3, hi, hw, hg, hc, hw2] <;> (first | omega | (simp_all; done) | skip)
  simp (config := { maxSteps := 10000000 }) [C_ty, ty3, ty59, ty61, K128, C_own, own, C_live, C_keep, keep, live128_3, hse] <;> (first | omega | (simp_all; done) | skip)
def arity (op : Int) : Int := if op = 7 then 1 else if op = 8 ∨ op = 9 then 2 else if inB 1 6 op then 0 else -1
theorem ArityOf_c (op : Int) : call C 218 [.int .i64 op] [] [] = some ([.int .i64 (arity op)], [], []) := by
  rw [call_pure C (f := 218) (fn := Tryz.f218) (C_P ▸ Tryz.func218) rfl rfl]
  by_cases h0_ : op = 7
  · simp (config := { maxSteps := 10000000 }) [C_ty, ty3, K106, C_own, own, arity, InRange_c, h0_] <;> (first | omega | (simp_all; done) | skip)
  · by_cases h1_ : op = 8
    · simp (config := { maxSteps := 10000000 }) [C_ty, ty3, K106, C_own, own, arity, InRange_c, h0_, h1_] <;> (first | omega | (simp_all; done) | skip)
    · by_cases h2_ : op = 9
      · simp (config := { maxSteps := 10000000 }) [C_ty, ty3, K106, C_own, own, arity, InRange_c, h0_, h1_, h2_] <;> (first | omega | (simp_all; done) | skip)
      · by_cases h3_ : inB 1 6 op = true
        · simp (config := { maxSteps := 10000000 }) [C_ty, ty3, K106, C_own, own, arity, InRange_c, h0_, h1_, h2_, h3_] <;> (first | omega | (simp_all; done) | skip)
        · simp (config := { maxSteps := 10000000 }) [C_ty, ty3, K106, C_own, own, arity, InRange_c, h0_, h1_, h2_, h3_] <;> (first | omega | (simp_all; done) | skip)
theorem sArityOf_c (op : Int) : call C 233 [.int .i64 op] [] [] = some ([.int .i64 (arity op)], [], []) := by
  have h : ¬ op = 1 → ¬ op = 2 → ¬ op = 3 → ¬ op = 4 → ¬ op = 5 → ¬ op = 6 → inB 1 6 op = false := fun _ _ _ _ _ _ => inB_not.2 (by omega)
  rw [call_pure C (f := 233) (fn := Tryz.f233) (C_P ▸ Tryz.func233) rfl rfl]
  by_cases h0_ : op = 1
  · simp (config := { maxSteps := 10000000 }) [C_ty, ty3, arity, inB, h0_] <;> (first | omega | (simp_all; done) | skip)
  · by_cases h1_ : op = 2
    · simp (config := { maxSteps := 10000000 }) [C_ty, ty3, arity, inB, h0_, h1_] <;> (first | omega | (simp_all; done) | skip)
    · by_cases h2_ : op = 3
      · simp (config := { maxSteps := 10000000 }) [C_ty, ty3, arity, inB, h0_, h1_, h2_] <;> (first | omega | (simp_all; done) | skip)
      · by_cases h3_ : op = 4
        · simp (config := { maxSteps := 10000000 }) [C_ty, ty3, arity, inB, h0_, h1_, h2_, h3_] <;> (first | omega | (simp_all; done) | skip)
        · by_cases h4_ : op = 5
          · simp (config := { maxSteps := 10000000 }) [C_ty, ty3, arity, inB, h0_, h1_, h2_, h3_, h4_] <;> (first | omega | (simp_all; done) | skip)
          · by_cases h5_ : op = 6
            · simp (config := { maxSteps := 10000000 }) [C_ty, ty3, arity, inB, h0_, h1_, h2_, h3_, h4_, h5_] <;> (first | omega | (simp_all; done) | skip)
            · by_cases h6_ : op = 7
              · simp (config := { maxSteps := 10000000 }) [C_ty, ty3, arity, inB, h0_, h1_, h2_, h3_, h4_, h5_, h6_] <;> (first | omega | (simp_all; done) | skip)
              · by_cases h7_ : op = 8
                · simp (config := { maxSteps := 10000000 }) [C_ty, ty3, arity, inB, h0_, h1_, h2_, h3_, h4_, h5_, h6_, h7_] <;> (first | omega | (simp_all; done) | skip)
                · by_cases h8_ : op = 9
                  · simp (config := { maxSteps := 10000000 }) [C_ty, ty3, arity, inB, h0_, h1_, h2_, h3_, h4_, h5_, h6_, h7_, h8_] <;> (first | omega | (simp_all; done) | skip)
                  · simp (config := { maxSteps := 10000000 }) [C_ty, ty3, arity, inB, h0_, h1_, h2_, h3_, h4_, h5_, h6_, h7_, h8_] <;> (first | omega | (simp_all; done) | skip)
/-- A and B as they may be. -/
def maxA (op : Int) : Int := if op = 2 then 5 else if op = 4 ∨ op = 5 then 3 else if op = 6 then 10000 else 0
def maxB (op : Int) : Int := if inB 2 5 op then 10000 else 0
def Tr.isNode (t : Tr) : Bool := decide ((t.ts.length : Int) = arity t.op) && inB 0 (maxA t.op) t.a && inB 0 (maxB t.op) t.b
theorem isNode_c (t : Tr) : call C 185 [.agg t.c] [] [] = some ([.bool t.isNode], [], []) := by
  rw [call_pure C (f := 185) (fn := Tryz.f185) (C_P ▸ Tryz.func185) rfl rfl]
  by_cases h0_ : t.op = 2
  · by_cases h1_ : (t.ts.length : Int) = arity 2
    · by_cases h2_ : inB 0 5 t.a = true
      · simp (config := { maxSteps := 10000000 }) [C_ty, ty3, ty59, ty61, K106, K218, C_own, own, C_order, order, Tr.c_eq t, Tr.cs_len, Tr.isNode, maxA, maxB, InRange_c, ArityOf_c, (show inB 2 5 2 = true from rfl), (show inB 2 5 4 = true from rfl), (show inB 2 5 5 = true from rfl), (show inB 2 5 6 = false from rfl), h0_, h1_, h2_] <;> (first | omega | (simp_all; done) | skip)
      · simp (config := { maxSteps := 10000000 }) [C_ty, ty3, ty59, ty61, K106, K218, C_own, own, C_order, order, Tr.c_eq t, Tr.cs_len, Tr.isNode, maxA, maxB, InRange_c, ArityOf_c, (show inB 2 5 2 = true from rfl), (show inB 2 5 4 = true from rfl), (show inB 2 5 5 = true from rfl), (show inB 2 5 6 = false from rfl), h0_, h1_, h2_] <;> (first | omega | (simp_all; done) | skip)
    · simp (config := { maxSteps := 10000000 }) [C_ty, ty3, ty59, ty61, K106, K218, C_own, own, C_order, order, Tr.c_eq t, Tr.cs_len, Tr.isNode, maxA, maxB, InRange_c, ArityOf_c, (show inB 2 5 2 = true from rfl), (show inB 2 5 4 = true from rfl), (show inB 2 5 5 = true from rfl), (show inB 2 5 6 = false from rfl), h0_, h1_] <;> (first | omega | (simp_all; done) | skip)
  · by_cases h1_ : t.op = 4
    · by_cases h2_ : (t.ts.length : Int) = arity 4
      · by_cases h3_ : inB 0 3 t.a = true
        · simp (config := { maxSteps := 10000000 }) [C_ty, ty3, ty59, ty61, K106, K218, C_own, own, C_order, order, Tr.c_eq t, Tr.cs_len, Tr.isNode, maxA, maxB, InRange_c, ArityOf_c, (show inB 2 5 2 = true from rfl), (show inB 2 5 4 = true from rfl), (show inB 2 5 5 = true from rfl), (show inB 2 5 6 = false from rfl), h0_, h1_, h2_, h3_] <;> (first | omega | (simp_all; done) | skip)
        · simp (config := { maxSteps := 10000000 }) [C_ty, ty3, ty59, ty61, K106, K218, C_own, own, C_order, order, Tr.c_eq t, Tr.cs_len, Tr.isNode, maxA, maxB, InRange_c, ArityOf_c, (show inB 2 5 2 = true from rfl), (show inB 2 5 4 = true from rfl), (show inB 2 5 5 = true from rfl), (show inB 2 5 6 = false from rfl), h0_, h1_, h2_, h3_] <;> (first | omega | (simp_all; done) | skip)
      · simp (config := { maxSteps := 10000000 }) [C_ty, ty3, ty59, ty61, K106, K218, C_own, own, C_order, order, Tr.c_eq t, Tr.cs_len, Tr.isNode, maxA, maxB, InRange_c, ArityOf_c, (show inB 2 5 2 = true from rfl), (show inB 2 5 4 = true from rfl), (show inB 2 5 5 = true from rfl), (show inB 2 5 6 = false from rfl), h0_, h1_, h2_] <;> (first | omega | (simp_all; done) | skip)
    · by_cases h2_ : t.op = 5
      · by_cases h3_ : (t.ts.length : Int) = arity 5
        · by_cases h4_ : inB 0 3 t.a = true
          · simp (config := { maxSteps := 10000000 }) [C_ty, ty3, ty59, ty61, K106, K218, C_own, own, C_order, order, Tr.c_eq t, Tr.cs_len, Tr.isNode, maxA, maxB, InRange_c, ArityOf_c, (show inB 2 5 2 = true from rfl), (show inB 2 5 4 = true from rfl), (show inB 2 5 5 = true from rfl), (show inB 2 5 6 = false from rfl), h0_, h1_, h2_, h3_, h4_] <;> (first | omega | (simp_all; done) | skip)
          · simp (config := { maxSteps := 10000000 }) [C_ty, ty3, ty59, ty61, K106, K218, C_own, own, C_order, order, Tr.c_eq t, Tr.cs_len, Tr.isNode, maxA, maxB, InRange_c, ArityOf_c, (show inB 2 5 2 = true from rfl), (show inB 2 5 4 = true from rfl), (show inB 2 5 5 = true from rfl), (show inB 2 5 6 = false from rfl), h0_, h1_, h2_, h3_, h4_] <;> (first | omega | (simp_all; done) | skip)
        · simp (config := { maxSteps := 10000000 }) [C_ty, ty3, ty59, ty61, K106, K218, C_own, own, C_order, order, Tr.c_eq t, Tr.cs_len, Tr.isNode, maxA, maxB, InRange_c, ArityOf_c, (show inB 2 5 2 = true from rfl), (show inB 2 5 4 = true from rfl), (show inB 2 5 5 = true from rfl), (show inB 2 5 6 = false from rfl), h0_, h1_, h2_, h3_] <;> (first | omega | (simp_all; done) | skip)
      · by_cases h3_ : t.op = 6
        · by_cases h4_ : (t.ts.length : Int) = arity 6
          · by_cases h5_ : inB 0 10000 t.a = true
            · simp (config := { maxSteps := 10000000 }) [C_ty, ty3, ty59, ty61, K106, K218, C_own, own, C_order, order, Tr.c_eq t, Tr.cs_len, Tr.isNode, maxA, maxB, InRange_c, ArityOf_c, (show inB 2 5 2 = true from rfl), (show inB 2 5 4 = true from rfl), (show inB 2 5 5 = true from rfl), (show inB 2 5 6 = false from rfl), h0_, h1_, h2_, h3_, h4_, h5_] <;> (first | omega | (simp_all; done) | skip)
            · simp (config := { maxSteps := 10000000 }) [C_ty, ty3, ty59, ty61, K106, K218, C_own, own, C_order, order, Tr.c_eq t, Tr.cs_len, Tr.isNode, maxA, maxB, InRange_c, ArityOf_c, (show inB 2 5 2 = true from rfl), (show inB 2 5 4 = true from rfl), (show inB 2 5 5 = true from rfl), (show inB 2 5 6 = false from rfl), h0_, h1_, h2_, h3_, h4_, h5_] <;> (first | omega | (simp_all; done) | skip)
          · simp (config := { maxSteps := 10000000 }) [C_ty, ty3, ty59, ty61, K106, K218, C_own, own, C_order, order, Tr.c_eq t, Tr.cs_len, Tr.isNode, maxA, maxB, InRange_c, ArityOf_c, (show inB 2 5 2 = true from rfl), (show inB 2 5 4 = true from rfl), (show inB 2 5 5 = true from rfl), (show inB 2 5 6 = false from rfl), h0_, h1_, h2_, h3_, h4_] <;> (first | omega | (simp_all; done) | skip)
        · by_cases h4_ : inB 2 5 t.op = true
          · by_cases h5_ : (t.ts.length : Int) = arity t.op
            · by_cases h6_ : inB 0 0 t.a = true
              · simp (config := { maxSteps := 10000000 }) [C_ty, ty3, ty59, ty61, K106, K218, C_own, own, C_order, order, Tr.c_eq t, Tr.cs_len, Tr.isNode, maxA, maxB, InRange_c, ArityOf_c, (show inB 2 5 2 = true from rfl), (show inB 2 5 4 = true from rfl), (show inB 2 5 5 = true from rfl), (show inB 2 5 6 = false from rfl), h0_, h1_, h2_, h3_, h4_, h5_, h6_] <;> (first | omega | (simp_all; done) | skip)
              · simp (config := { maxSteps := 10000000 }) [C_ty, ty3, ty59, ty61, K106, K218, C_own, own, C_order, order, Tr.c_eq t, Tr.cs_len, Tr.isNode, maxA, maxB, InRange_c, ArityOf_c, (show inB 2 5 2 = true from rfl), (show inB 2 5 4 = true from rfl), (show inB 2 5 5 = true from rfl), (show inB 2 5 6 = false from rfl), h0_, h1_, h2_, h3_, h4_, h5_, h6_] <;> (first | omega | (simp_all; done) | skip)
            · simp (config := { maxSteps := 10000000 }) [C_ty, ty3, ty59, ty61, K106, K218, C_own, own, C_order, order, Tr.c_eq t, Tr.cs_len, Tr.isNode, maxA, maxB, InRange_c, ArityOf_c, (show inB 2 5 2 = true from rfl), (show inB 2 5 4 = true from rfl), (show inB 2 5 5 = true from rfl), (show inB 2 5 6 = false from rfl), h0_, h1_, h2_, h3_, h4_, h5_] <;> (first | omega | (simp_all; done) | skip)
          · by_cases h5_ : (t.ts.length : Int) = arity t.op
            · by_cases h6_ : inB 0 0 t.a = true
              · simp (config := { maxSteps := 10000000 }) [C_ty, ty3, ty59, ty61, K106, K218, C_own, own, C_order, order, Tr.c_eq t, Tr.cs_len, Tr.isNode, maxA, maxB, InRange_c, ArityOf_c, (show inB 2 5 2 = true from rfl), (show inB 2 5 4 = true from rfl), (show inB 2 5 5 = true from rfl), (show inB 2 5 6 = false from rfl), h0_, h1_, h2_, h3_, h4_, h5_, h6_] <;> (first | omega | (simp_all; done) | skip)
              · simp (config := { maxSteps := 10000000 }) [C_ty, ty3, ty59, ty61, K106, K218, C_own, own, C_order, order, Tr.c_eq t, Tr.cs_len, Tr.isNode, maxA, maxB, InRange_c, ArityOf_c, (show inB 2 5 2 = true from rfl), (show inB 2 5 4 = true from rfl), (show inB 2 5 5 = true from rfl), (show inB 2 5 6 = false from rfl), h0_, h1_, h2_, h3_, h4_, h5_, h6_] <;> (first | omega | (simp_all; done) | skip)
            · simp (config := { maxSteps := 10000000 }) [C_ty, ty3, ty59, ty61, K106, K218, C_own, own, C_order, order, Tr.c_eq t, Tr.cs_len, Tr.isNode, maxA, maxB, InRange_c, ArityOf_c, (show inB 2 5 2 = true from rfl), (show inB 2 5 4 = true from rfl), (show inB 2 5 5 = true from rfl), (show inB 2 5 6 = false from rfl), h0_, h1_, h2_, h3_, h4_, h5_] <;> (first | omega | (simp_all; done) | skip)
theorem inB_00 (x : Int) : decide (x = 0) = inB 0 0 x := by
  have h := @inB_iff 0 0 x
  cases hb : inB 0 0 x with
  | true => have := h.1 hb; simp; omega
  | false => rw [hb] at h; simp only [Bool.false_eq_true, false_iff] at h; simp; omega
theorem l15Node_c (t : Tr) : call C 225 [.agg t.c] [] [] = some ([.bool t.isNode], [], []) := by
  have e : t.isNode = (inB 0 (maxA t.op) t.a && inB 0 (maxB t.op) t.b && decide ((t.ts.length : Int) = arity t.op)) := by
    unfold Tr.isNode
    cases decide ((t.ts.length : Int) = arity t.op) <;> cases inB 0 (maxA t.op) t.a <;> cases inB 0 (maxB t.op) t.b <;> rfl
  rw [e]
  rw [call_pure C (f := 225) (fn := Tryz.f225) (C_P ▸ Tryz.func225) rfl rfl]
  by_cases h0_ : t.op = 2
  · by_cases h1_ : inB 0 5 t.a = true
    · by_cases h2_ : inB 0 10000 t.b = true
      · simp (config := { maxSteps := 10000000 }) [C_ty, ty3, ty59, ty61, K132, K142, K233, C_own, own, C_order, order, Tr.c_eq t, Tr.cs_len, maxA, maxB, l1In_c, sArityOf_c, sIsTime_c, isTime, inB_00, (show inB 2 5 2 = true from rfl), (show inB 2 5 4 = true from rfl), (show inB 2 5 5 = true from rfl), (show inB 2 5 6 = false from rfl), h0_, h1_, h2_] <;> (first | omega | (simp_all; done) | skip)
      · simp (config := { maxSteps := 10000000 }) [C_ty, ty3, ty59, ty61, K132, K142, K233, C_own, own, C_order, order, Tr.c_eq t, Tr.cs_len, maxA, maxB, l1In_c, sArityOf_c, sIsTime_c, isTime, inB_00, (show inB 2 5 2 = true from rfl), (show inB 2 5 4 = true from rfl), (show inB 2 5 5 = true from rfl), (show inB 2 5 6 = false from rfl), h0_, h1_, h2_] <;> (first | omega | (simp_all; done) | skip)
    · simp (config := { maxSteps := 10000000 }) [C_ty, ty3, ty59, ty61, K132, K142, K233, C_own, own, C_order, order, Tr.c_eq t, Tr.cs_len, maxA, maxB, l1In_c, sArityOf_c, sIsTime_c, isTime, inB_00, (show inB 2 5 2 = true from rfl), (show inB 2 5 4 = true from rfl), (show inB 2 5 5 = true from rfl), (show inB 2 5 6 = false from rfl), h0_, h1_] <;> (first | omega | (simp_all; done) | skip)
  · by_cases h1_ : t.op = 4
    · by_cases h2_ : inB 0 3 t.a = true
      · by_cases h3_ : inB 0 10000 t.b = true
        · simp (config := { maxSteps := 10000000 }) [C_ty, ty3, ty59, ty61, K132, K142, K233, C_own, own, C_order, order, Tr.c_eq t, Tr.cs_len, maxA, maxB, l1In_c, sArityOf_c, sIsTime_c, isTime, inB_00, (show inB 2 5 2 = true from rfl), (show inB 2 5 4 = true from rfl), (show inB 2 5 5 = true from rfl), (show inB 2 5 6 = false from rfl), h0_, h1_, h2_, h3_] <;> (first | omega | (simp_all; done) | skip)
        · simp (config := { maxSteps := 10000000 }) [C_ty, ty3, ty59, ty61, K132, K142, K233, C_own, own, C_order, order, Tr.c_eq t, Tr.cs_len, maxA, maxB, l1In_c, sArityOf_c, sIsTime_c, isTime, inB_00, (show inB 2 5 2 = true from rfl), (show inB 2 5 4 = true from rfl), (show inB 2 5 5 = true from rfl), (show inB 2 5 6 = false from rfl), h0_, h1_, h2_, h3_] <;> (first | omega | (simp_all; done) | skip)
      · simp (config := { maxSteps := 10000000 }) [C_ty, ty3, ty59, ty61, K132, K142, K233, C_own, own, C_order, order, Tr.c_eq t, Tr.cs_len, maxA, maxB, l1In_c, sArityOf_c, sIsTime_c, isTime, inB_00, (show inB 2 5 2 = true from rfl), (show inB 2 5 4 = true from rfl), (show inB 2 5 5 = true from rfl), (show inB 2 5 6 = false from rfl), h0_, h1_, h2_] <;> (first | omega | (simp_all; done) | skip)
    · by_cases h2_ : t.op = 5
      · by_cases h3_ : inB 0 3 t.a = true
        · by_cases h4_ : inB 0 10000 t.b = true
          · simp (config := { maxSteps := 10000000 }) [C_ty, ty3, ty59, ty61, K132, K142, K233, C_own, own, C_order, order, Tr.c_eq t, Tr.cs_len, maxA, maxB, l1In_c, sArityOf_c, sIsTime_c, isTime, inB_00, (show inB 2 5 2 = true from rfl), (show inB 2 5 4 = true from rfl), (show inB 2 5 5 = true from rfl), (show inB 2 5 6 = false from rfl), h0_, h1_, h2_, h3_, h4_] <;> (first | omega | (simp_all; done) | skip)
          · simp (config := { maxSteps := 10000000 }) [C_ty, ty3, ty59, ty61, K132, K142, K233, C_own, own, C_order, order, Tr.c_eq t, Tr.cs_len, maxA, maxB, l1In_c, sArityOf_c, sIsTime_c, isTime, inB_00, (show inB 2 5 2 = true from rfl), (show inB 2 5 4 = true from rfl), (show inB 2 5 5 = true from rfl), (show inB 2 5 6 = false from rfl), h0_, h1_, h2_, h3_, h4_] <;> (first | omega | (simp_all; done) | skip)
        · simp (config := { maxSteps := 10000000 }) [C_ty, ty3, ty59, ty61, K132, K142, K233, C_own, own, C_order, order, Tr.c_eq t, Tr.cs_len, maxA, maxB, l1In_c, sArityOf_c, sIsTime_c, isTime, inB_00, (show inB 2 5 2 = true from rfl), (show inB 2 5 4 = true from rfl), (show inB 2 5 5 = true from rfl), (show inB 2 5 6 = false from rfl), h0_, h1_, h2_, h3_] <;> (first | omega | (simp_all; done) | skip)
      · by_cases h3_ : t.op = 6
        · by_cases h4_ : inB 0 10000 t.a = true
          · by_cases h5_ : inB 0 0 t.b = true
            · simp (config := { maxSteps := 10000000 }) [C_ty, ty3, ty59, ty61, K132, K142, K233, C_own, own, C_order, order, Tr.c_eq t, Tr.cs_len, maxA, maxB, l1In_c, sArityOf_c, sIsTime_c, isTime, inB_00, (show inB 2 5 2 = true from rfl), (show inB 2 5 4 = true from rfl), (show inB 2 5 5 = true from rfl), (show inB 2 5 6 = false from rfl), h0_, h1_, h2_, h3_, h4_, h5_] <;> (first | omega | (simp_all; done) | skip)
            · simp (config := { maxSteps := 10000000 }) [C_ty, ty3, ty59, ty61, K132, K142, K233, C_own, own, C_order, order, Tr.c_eq t, Tr.cs_len, maxA, maxB, l1In_c, sArityOf_c, sIsTime_c, isTime, inB_00, (show inB 2 5 2 = true from rfl), (show inB 2 5 4 = true from rfl), (show inB 2 5 5 = true from rfl), (show inB 2 5 6 = false from rfl), h0_, h1_, h2_, h3_, h4_, h5_] <;> (first | omega | (simp_all; done) | skip)
          · simp (config := { maxSteps := 10000000 }) [C_ty, ty3, ty59, ty61, K132, K142, K233, C_own, own, C_order, order, Tr.c_eq t, Tr.cs_len, maxA, maxB, l1In_c, sArityOf_c, sIsTime_c, isTime, inB_00, (show inB 2 5 2 = true from rfl), (show inB 2 5 4 = true from rfl), (show inB 2 5 5 = true from rfl), (show inB 2 5 6 = false from rfl), h0_, h1_, h2_, h3_, h4_] <;> (first | omega | (simp_all; done) | skip)
        · by_cases h4_ : inB 2 5 t.op = true
          · by_cases h5_ : inB 0 0 t.a = true
            · by_cases h6_ : inB 0 10000 t.b = true
              · simp (config := { maxSteps := 10000000 }) [C_ty, ty3, ty59, ty61, K132, K142, K233, C_own, own, C_order, order, Tr.c_eq t, Tr.cs_len, maxA, maxB, l1In_c, sArityOf_c, sIsTime_c, isTime, inB_00, (show inB 2 5 2 = true from rfl), (show inB 2 5 4 = true from rfl), (show inB 2 5 5 = true from rfl), (show inB 2 5 6 = false from rfl), h0_, h1_, h2_, h3_, h4_, h5_, h6_] <;> (first | omega | (simp_all; done) | skip)
              · simp (config := { maxSteps := 10000000 }) [C_ty, ty3, ty59, ty61, K132, K142, K233, C_own, own, C_order, order, Tr.c_eq t, Tr.cs_len, maxA, maxB, l1In_c, sArityOf_c, sIsTime_c, isTime, inB_00, (show inB 2 5 2 = true from rfl), (show inB 2 5 4 = true from rfl), (show inB 2 5 5 = true from rfl), (show inB 2 5 6 = false from rfl), h0_, h1_, h2_, h3_, h4_, h5_, h6_] <;> (first | omega | (simp_all; done) | skip)
            · simp (config := { maxSteps := 10000000 }) [C_ty, ty3, ty59, ty61, K132, K142, K233, C_own, own, C_order, order, Tr.c_eq t, Tr.cs_len, maxA, maxB, l1In_c, sArityOf_c, sIsTime_c, isTime, inB_00, (show inB 2 5 2 = true from rfl), (show inB 2 5 4 = true from rfl), (show inB 2 5 5 = true from rfl), (show inB 2 5 6 = false from rfl), h0_, h1_, h2_, h3_, h4_, h5_] <;> (first | omega | (simp_all; done) | skip)
          · by_cases h5_ : inB 0 0 t.a = true
            · by_cases h6_ : inB 0 0 t.b = true
              · simp (config := { maxSteps := 10000000 }) [C_ty, ty3, ty59, ty61, K132, K142, K233, C_own, own, C_order, order, Tr.c_eq t, Tr.cs_len, maxA, maxB, l1In_c, sArityOf_c, sIsTime_c, isTime, inB_00, (show inB 2 5 2 = true from rfl), (show inB 2 5 4 = true from rfl), (show inB 2 5 5 = true from rfl), (show inB 2 5 6 = false from rfl), h0_, h1_, h2_, h3_, h4_, h5_, h6_] <;> (first | omega | (simp_all; done) | skip)
              · simp (config := { maxSteps := 10000000 }) [C_ty, ty3, ty59, ty61, K132, K142, K233, C_own, own, C_order, order, Tr.c_eq t, Tr.cs_len, maxA, maxB, l1In_c, sArityOf_c, sIsTime_c, isTime, inB_00, (show inB 2 5 2 = true from rfl), (show inB 2 5 4 = true from rfl), (show inB 2 5 5 = true from rfl), (show inB 2 5 6 = false from rfl), h0_, h1_, h2_, h3_, h4_, h5_, h6_] <;> (first | omega | (simp_all; done) | skip)
            · simp (config := { maxSteps := 10000000 }) [C_ty, ty3, ty59, ty61, K132, K142, K233, C_own, own, C_order, order, Tr.c_eq t, Tr.cs_len, maxA, maxB, l1In_c, sArityOf_c, sIsTime_c, isTime, inB_00, (show inB 2 5 2 = true from rfl), (show inB 2 5 4 = true from rfl), (show inB 2 5 5 = true from rfl), (show inB 2 5 6 = false from rfl), h0_, h1_, h2_, h3_, h4_, h5_] <;> (first | omega | (simp_all; done) | skip)
end Go.AI
/- Conditions that are right. -/
namespace Go.AI
open Go Go.Proofs
attribute [local congr] bind_left map_left guardOn_congr condOn_congr
attribute [local simp] call_pure start run_seq run_region run_draw arrange run_cond run_block exec_ret exec_exit exec_skip ite_bind ite_map opsW_nil opsW_cons opsW_guard doOp_move doOp_assign doOp_pick doOp_load doOp_nilCheck doOp_fieldAddr doOp_indexAddr doOp_index doOp_slice doOp_binOp doOp_not doOp_neg doOp_convert doOp_extract doOp_build doOp_makeFunc doOp_len doOp_min doOp_max doOp_field doOp_alloc doOp_box doOp_store doOp_buildSlice doOp_makeSlice doOp_append doOp_call cutMk ret tidy sift closed okCell cellsT headOf
set_option maxRecDepth 100000
set_option maxHeartbeats 4000000
set_option linter.unusedSimpArgs false
set_option linter.unusedVariables false
/-- What a function value holds is lent as it is. -/
def capOk (cap : List PV) : Prop := ∀ c ∈ cap, ∃ cs off, c = PV.cptr cs off
theorem capOk.lend {cap : List PV} (h : capOk cap) (b : Map (List PV)) (m : Map Blk) : lendCS.lendCapS C b m cap = some cap := by
  induction cap with
  | nil => rfl
  | cons c cap ih =>
    obtain ⟨cs, off, rfl⟩ := h c (by simp)
    simp only [lendCS.lendCapS, ih fun x hx => h x (by simp [hx]), Option.bind_some]
theorem capOk.ptr {cap : List PV} (h : capOk cap) (g : FuncId) : ptrKey (.fn g cap) = [] := by
  simp only [ptrKey, List.flatMap_eq_nil_iff]
  intro c hc
  obtain ⟨cs, off, rfl⟩ := h c hc
  rfl
theorem capOk.ptrs {cap : List PV} (h : capOk cap) : ptrKeys cap = [] := by
  simp only [ptrKeys, List.flatMap_eq_nil_iff]
  intro c hc
  obtain ⟨cs, off, rfl⟩ := h c hc
  rfl
theorem capOk.all {cap : List PV} (h : capOk cap) (b : Map (List PV)) (m : Map Blk) : lendAll C b m cap = some cap := by
  induction cap with
  | nil => rfl
  | cons c cap ih =>
    obtain ⟨cs, off, rfl⟩ := h c (by simp)
    simp only [lendAll, ih fun x hx => h x (by simp [hx]), Option.bind_some, lendS_cptr]
theorem stop_any {p : Nat → Bool} {n : Nat} : stop p n < n ↔ ∃ i, i < n ∧ p i = true := by
  constructor
  · intro h; exact ⟨_, h, stop_hit h⟩
  · rintro ⟨i, hi, hp⟩
    by_cases h : stop p n < n
    · exact h
    · have := stop_before (p := p) (n := n) (j := i) (by omega)
      rw [hp] at this; cases this
theorem place_any {α : Type} (l : List α) (q : α → Bool) : decide (0 ≤ placeOf (fun i => (l[i]?).any q) l.length) = l.any q := by
  unfold placeOf
  have h := @stop_any (fun i => (l[i]?).any q) l.length
  cases ha : l.any q with
  | true =>
    obtain ⟨x, hx, hq⟩ := List.any_eq_true.1 ha
    obtain ⟨i, hi, rfl⟩ := List.getElem_of_mem hx
    rw [if_pos (h.2 ⟨i, hi, by simp [hi, hq]⟩)]
    simp
  | false =>
    rw [if_neg]
    · rfl
    · intro hs
      obtain ⟨i, hi, hp⟩ := h.1 hs
      simp only [List.getElem?_eq_getElem hi, Option.any_some] at hp
      have := List.any_eq_true.2 ⟨l[i], List.getElem_mem hi, hp⟩
      rw [ha] at this; cases this
theorem IndexFuncT_c (l : List Tr) (g : FuncId) (cap : List PV) (q : Tr → Bool) (hio : C.io g = []) (hcap : capOk cap) (hl : l.length < 9223372036854775807) (hq : ∀ t ∈ l, call C g (.agg t.c :: cap) [] [] = some ([.bool (q t)], [], [])) :
    call C 183 [.arr 4 (Tr.cs l), .fn g cap] [] [] = some ([.int .i64 (placeOf (fun i => (l[i]?).any q) l.length)], [], []) := by
  have K := fun call dir f d st vs => callK_pure C call f d st dir g vs hio
  have h1 := hcap.lend
  have h2 := hcap.ptr g
  have h3 := hcap.ptrs
  have h4 := hcap.all
  rw [call_pure C (f := 183) (fn := Tryz.f183) (C_P ▸ Tryz.func183) rfl rfl]
  simp (config := { maxSteps := 10000000 }) [C_ty, ty3, ty59, ty61, C_live, C_keep, keep, live183_2, Tr.cs_len] <;> (first | omega | (simp_all; done) | skip)
  rw [loop_stop C 183 (J := fun i => ⟨[(8, .int .i64 i), (7, .int .i64 l.length), (1, .fn g cap), (0, .arr 4 (Tr.cs l))], [], []⟩) (n := l.length) (p := fun i => (l[i]?).any q) (h0 := ?h0) (step := ?step)]
  case h0 => simp (config := { maxSteps := 10000000 }) [C_ty, ty3, ty59, ty61, C_live, C_keep, keep, live183_2, h2] <;> (first | omega | (simp_all; done) | skip)
  case step =>
    intro i hi hp
    have hw := wrap_nat (i := i) (by omega)
    have hg := Tr.cs_get hi
    have hc := hq l[i] (List.getElem_mem hi)
    simp only [Tr.c_eq] at hc
    have hne : q l[i] = false := by simpa [hi] using hp
    simp (config := { maxSteps := 10000000 }) [C_ty, ty3, ty59, ty61, C_live, C_keep, keep, live183_2, hi, hw, hg, hne, K, h1, h2, h3, h4, hc] <;> (first | omega | (simp_all; done) | skip)
  unfold placeOf
  generalize hs : stop (fun i => (l[i]?).any q) l.length = i
  have hle := stop_le (fun i => (l[i]?).any q) l.length
  rw [hs] at hle
  by_cases hi : i < l.length
  · have hp := stop_hit (p := fun i => (l[i]?).any q) (n := l.length) (by omega)
    rw [hs] at hp
    have hg := Tr.cs_get hi
    have he : q l[i] = true := by simpa [hi] using hp
    have hc := hq l[i] (List.getElem_mem hi)
    simp only [Tr.c_eq] at hc
    simp (config := { maxSteps := 10000000 }) [C_ty, ty3, ty59, ty61, C_live, C_keep, keep, live183_2, hi, hg, he, K, h1, h2, h3, h4, hc] <;> (first | omega | (simp_all; done) | skip)
  · simp (config := { maxSteps := 10000000 }) [C_ty, ty3, ty59, ty61, C_live, C_keep, keep, live183_2, hi] <;> (first | omega | (simp_all; done) | skip)
theorem ContainsFuncT_c (l : List Tr) (g : FuncId) (cap : List PV) (q : Tr → Bool) (hio : C.io g = []) (hcap : capOk cap) (hl : l.length < 9223372036854775807) (hq : ∀ t ∈ l, call C g (.agg t.c :: cap) [] [] = some ([.bool (q t)], [], [])) :
    call C 124 [.arr 4 (Tr.cs l), .fn g cap] [] [] = some ([.bool (l.any q)], [], []) := by
  have h1 := hcap.lend
  have h2 := hcap.ptr g
  have h3 := hcap.ptrs
  have h4 := hcap.all
  have hc := IndexFuncT_c l g cap q hio hcap hl hq
  rw [← place_any]
  rw [call_pure C (f := 124) (fn := Tryz.f124) (C_P ▸ Tryz.func124) rfl rfl]
  simp (config := { maxSteps := 10000000 }) [C_ty, ty3, ty59, ty61, ty81, K183, C_own, own, h1, h2, h3, hc] <;> (first | omega | (simp_all; done) | skip)
end Go.AI
/- Valid conditions. -/
namespace Go.AI
open Go Go.Proofs
attribute [local congr] bind_left map_left guardOn_congr condOn_congr
attribute [local simp] call_pure start run_seq run_region run_draw arrange run_cond run_block exec_ret exec_exit exec_skip ite_bind ite_map opsW_nil opsW_cons opsW_guard doOp_move doOp_assign doOp_pick doOp_load doOp_nilCheck doOp_fieldAddr doOp_indexAddr doOp_index doOp_slice doOp_binOp doOp_not doOp_neg doOp_convert doOp_extract doOp_build doOp_makeFunc doOp_len doOp_min doOp_max doOp_field doOp_alloc doOp_box doOp_store doOp_buildSlice doOp_makeSlice doOp_append doOp_call cutMk ret tidy sift closed okCell cellsT headOf
set_option maxRecDepth 100000
set_option maxHeartbeats 4000000
set_option linter.unusedSimpArgs false
set_option linter.unusedVariables false
mutual
def Tr.areN : Tr → Bool
  | .node op a b ts => Tr.isNode (.node op a b ts) && Tr.areNs ts
def Tr.areNs : List Tr → Bool
  | [] => true
  | t :: r => Tr.areN t && Tr.areNs r
end
theorem Tr.areNs_all : ∀ l : List Tr, Tr.areNs l = l.all Tr.areN
  | [] => by simp [Tr.areNs]
  | t :: l => by simp [Tr.areNs, Tr.areNs_all l]
theorem Tr.areN_eq (t : Tr) : t.areN = (t.isNode && t.ts.all Tr.areN) := by
  cases t
  simp only [Tr.areN, Tr.areNs_all, Tr.ts]
theorem areNodes_c (t : Tr) : t.size < 4611686018427387904 → call C 129 [.agg t.c] [] [] = some ([.bool t.areN], [], []) := by
  induction t using Tr.ind with
  | _ t ih =>
  intro hsz
  have hse := t.size_eq
  have hlen := Tr.len_le t.ts
  have hcl : ∀ x ∈ t.ts, call C 186 (.agg x.c :: []) [] [] = some ([.bool (!x.areN)], [], []) := by
    intro x hx
    have hc := ih x hx (by have := Tr.size_mem hx; omega)
    simp only [Tr.c_eq] at hc
    rw [call_pure C (f := 186) (fn := Tryz.f186) (C_P ▸ Tryz.func186) rfl rfl]
    simp (config := { maxSteps := 10000000 }) [C_ty, ty3, ty4, ty59, ty61, K129, C_own, own, Tr.c_eq x, hc] <;> (first | omega | (simp_all; done) | skip)
  have hcf := ContainsFuncT_c t.ts 186 [] (fun x => !x.areN) rfl (fun _ h => by cases h) (by omega) hcl
  have hn := isNode_c t
  simp only [Tr.c_eq] at hn
  have he : (!t.ts.any fun x => !x.areN) = t.ts.all Tr.areN := by simp [List.all_eq_not_any_not]
  rw [Tr.areN_eq, ← he]
  rw [call_pure C (f := 129) (fn := Tryz.f129) (C_P ▸ Tryz.func129) rfl rfl]
  by_cases h0_ : t.isNode = true
  · simp (config := { maxSteps := 10000000 }) [C_ty, ty3, ty4, ty59, ty61, ty81, K124, K185, K186, C_own, own, Tr.c_eq t, hn, hcf, h0_] <;> (first | omega | (simp_all; done) | skip)
  · simp (config := { maxSteps := 10000000 }) [C_ty, ty3, ty4, ty59, ty61, ty81, K124, K185, K186, C_own, own, Tr.c_eq t, hn, hcf, h0_] <;> (first | omega | (simp_all; done) | skip)
def Tr.isCond (t : Tr) : Bool := decide (t.size ≤ 15) && t.areN
theorem IsCond_c (t : Tr) (hsz : t.size < 4611686018427387904) : call C 51 [.agg t.c] [] [] = some ([.bool t.isCond], [], []) := by
  have h1 := SizeOf_c t hsz
  have h2 := areNodes_c t hsz
  simp only [Tr.c_eq] at h1 h2
  have e : decide ((t.size : Int) ≤ 15) = decide (t.size ≤ 15) := by simp; omega
  rw [call_pure C (f := 51) (fn := Tryz.f51) (C_P ▸ Tryz.func51) rfl rfl]
  by_cases h0_ : t.size ≤ 15
  · simp (config := { maxSteps := 10000000 }) [C_ty, ty3, ty59, ty61, K128, K129, C_own, own, Tr.c_eq t, Tr.isCond, h1, h2, e, h0_] <;> (first | omega | (simp_all; done) | skip)
  · simp (config := { maxSteps := 10000000 }) [C_ty, ty3, ty59, ty61, K128, K129, C_own, own, Tr.c_eq t, Tr.isCond, h1, h2, e, h0_] <;> (first | omega | (simp_all; done) | skip)
mutual
def Tr.left : Tr → Int → Int
  | .node _ _ _ ts, n => Tr.lefts ts (n - 1)
def Tr.lefts : List Tr → Int → Int
  | [], n => n
  | t :: r, n => if 0 ≤ n then Tr.lefts r (Tr.left t n) else n
end
theorem Tr.left_eq (t : Tr) (n : Int) : t.left n = Tr.lefts t.ts (n - 1) := by cases t; simp only [Tr.left, Tr.ts]
theorem l15Valid_c (t : Tr) : t.size < 4611686018427387904 → call C 210 [.agg t.c] [] [] = some ([.bool t.areN], [], []) := by
  induction t using Tr.ind with
  | _ t ih =>
  intro hsz
  have hse := t.size_eq
  have hlen := Tr.len_le t.ts
  have hn := l15Node_c t
  simp only [Tr.c_eq] at hn
  rw [Tr.areN_eq]
  by_cases hnode : t.isNode = false
  · rw [call_pure C (f := 210) (fn := Tryz.f210) (C_P ▸ Tryz.func210) rfl rfl]
    simp (config := { maxSteps := 10000000 }) [C_ty, ty3, ty4, ty59, ty61, K210, K225, C_own, own, C_live, C_keep, keep, live210_4, Tr.c_eq t, hn, hnode] <;> (first | omega | (simp_all; done) | skip)
  have hnode : t.isNode = true := by simpa using hnode
  rw [call_pure C (f := 210) (fn := Tryz.f210) (C_P ▸ Tryz.func210) rfl rfl]
  simp (config := { maxSteps := 10000000 }) [C_ty, ty3, ty4, ty59, ty61, K210, K225, C_own, own, C_live, C_keep, keep, live210_4, Tr.c_eq t, hn, hnode] <;> (first | omega | (simp_all; done) | skip)
  rw [loop_stop C 210 (J := fun i => ⟨[(3, .int .i64 i), (1, .ptr 64 0)], [(64, [.int .i64 t.op, .int .i64 t.a, .int .i64 t.b, .arr 4 (Tr.cs t.ts)])], []⟩) (n := t.ts.length) (p := fun i => (t.ts[i]?).any fun x => !x.areN) (h0 := ?h0) (step := ?step)]
  case h0 => simp (config := { maxSteps := 10000000 }) [C_ty, ty3, ty4, ty59, ty61, K210, K225, C_own, own, C_live, C_keep, keep, live210_4] <;> (first | omega | (simp_all; done) | skip)
  case step =>
    intro i hi hp
    have hw := wrap_nat (i := i) (by omega)
    have hg := Tr.cs_get hi
    have hc := ih t.ts[i] (List.getElem_mem hi) (by have := Tr.size_mem (List.getElem_mem hi); omega)
    simp only [Tr.c_eq] at hc
    have hne : t.ts[i].areN = true := by simpa [hi] using hp
    simp (config := { maxSteps := 10000000 }) [C_ty, ty3, ty4, ty59, ty61, K210, K225, C_own, own, C_live, C_keep, keep, live210_4, Tr.cs_len, Tr.cs_at, hi, hw, hc, hne] <;> (first | omega | (simp_all; done) | skip)
  have hany := @stop_any (fun i => (t.ts[i]?).any fun x => !x.areN) t.ts.length
  generalize hs : stop (fun i => (t.ts[i]?).any fun x => !x.areN) t.ts.length = i at *
  have hle := stop_le (fun i => (t.ts[i]?).any fun x => !x.areN) t.ts.length
  rw [hs] at hle
  by_cases hi : i < t.ts.length
  · have hp := stop_hit (p := fun i => (t.ts[i]?).any fun x => !x.areN) (n := t.ts.length) (by omega)
    rw [hs] at hp
    have hg := Tr.cs_get hi
    have he : t.ts[i].areN = false := by simpa [hi] using hp
    have hc := ih t.ts[i] (List.getElem_mem hi) (by have := Tr.size_mem (List.getElem_mem hi); omega)
    simp only [Tr.c_eq] at hc
    have hall : t.ts.all Tr.areN = false := by
      rw [List.all_eq_false]
      exact ⟨t.ts[i], List.getElem_mem hi, by simp [he]⟩
    simp (config := { maxSteps := 10000000 }) [C_ty, ty3, ty4, ty59, ty61, K210, K225, C_own, own, C_live, C_keep, keep, live210_4, Tr.cs_len, Tr.cs_at, hi, he, hc, hall] <;> (first | omega | (simp_all; done) | skip)
  · have hall : t.ts.all Tr.areN = true := by
      rw [List.all_eq_true]
      intro x hx
      obtain ⟨j, hj, rfl⟩ := List.getElem_of_mem hx
      have := stop_before (p := fun i => (t.ts[i]?).any fun x => !x.areN) (n := t.ts.length) (j := j) (by omega)
      simpa [hj] using this
    simp (config := { maxSteps := 10000000 }) [C_ty, ty3, ty4, ty59, ty61, K210, K225, C_own, own, C_live, C_keep, keep, live210_4, Tr.cs_len, hi, hall] <;> (first | omega | (simp_all; done) | skip)
end Go.AI
/- Conditions evaluated. -/
namespace Go.AI
open Go Go.Proofs
attribute [local congr] bind_left map_left guardOn_congr condOn_congr
attribute [local simp] call_pure start run_seq run_region run_draw arrange run_cond run_block exec_ret exec_exit exec_skip ite_bind ite_map opsW_nil opsW_cons opsW_guard doOp_move doOp_assign doOp_pick doOp_load doOp_nilCheck doOp_fieldAddr doOp_indexAddr doOp_index doOp_slice doOp_binOp doOp_not doOp_neg doOp_convert doOp_extract doOp_build doOp_makeFunc doOp_len doOp_min doOp_max doOp_field doOp_alloc doOp_box doOp_store doOp_buildSlice doOp_makeSlice doOp_append doOp_call cutMk ret tidy sift closed okCell cellsT headOf
set_option maxRecDepth 100000
set_option maxHeartbeats 4000000
set_option linter.unusedSimpArgs false
set_option linter.unusedVariables false
theorem Tr.lefts_neg : ∀ (l : List Tr) (n : Int), n < 0 → Tr.lefts l n = n
  | [], n, _ => by simp only [Tr.lefts]
  | t :: l, n, h => by simp only [Tr.lefts]; rw [if_neg (by omega)]
theorem Tr.left_size (t : Tr) : ∀ n : Int, ((t.size : Int) ≤ n → t.left n = n - t.size) ∧ (n < t.size → t.left n < 0) := by
  induction t using Tr.ind with
  | _ t ih =>
  have key : ∀ (l : List Tr), (∀ x ∈ l, ∀ n : Int, ((x.size : Int) ≤ n → x.left n = n - x.size) ∧ (n < x.size → x.left n < 0)) → ∀ n : Int, ((Tr.sizes l : Int) ≤ n → Tr.lefts l n = n - Tr.sizes l) ∧ (n < Tr.sizes l → Tr.lefts l n < 0) := by
    intro l
    induction l with
    | nil => intro _ n; simp only [Tr.sizes, Tr.lefts]; omega
    | cons x l ihl =>
      intro h n
      have hx := h x (by simp)
      have hl := ihl fun y hy => h y (by simp [hy])
      simp only [Tr.sizes, Tr.lefts]
      by_cases h0 : 0 ≤ n
      · rw [if_pos h0]
        by_cases hs : (x.size : Int) ≤ n
        · rw [(hx n).1 hs]
          have := hl (n - x.size)
          constructor
          · intro h1; rw [this.1 (by omega)]; omega
          · intro h1; exact this.2 (by omega)
        · have hneg := (hx n).2 (by omega)
          rw [Tr.lefts_neg _ _ hneg]
          constructor
          · intro h1; omega
          · intro _; exact hneg
      · rw [if_neg h0]
        constructor
        · intro h1; omega
        · intro _; omega
  intro n
  have := key t.ts ih (n - 1)
  have hs := t.size_eq
  rw [Tr.left_eq]
  constructor
  · intro h; rw [this.1 (by omega)]; omega
  · intro h; exact this.2 (by omega)
theorem Tr.lefts_take : ∀ (l : List Tr) (n : Int) (i : Nat) (h : i < l.length), Tr.lefts (l.take (i + 1)) n = if 0 ≤ Tr.lefts (l.take i) n then l[i].left (Tr.lefts (l.take i) n) else Tr.lefts (l.take i) n
  | t :: l, n, 0, _ => by simp [Tr.lefts]
  | t :: l, n, i + 1, h => by
    simp only [List.take_succ_cons, Tr.lefts, List.getElem_cons_succ]
    by_cases h0 : 0 ≤ n
    · simp only [h0, if_true]
      exact Tr.lefts_take l _ i (by simpa using h)
    · simp only [h0, if_false]
theorem Tr.lefts_le (t : Tr) (n : Int) : t.left n ≤ n := by
  have := t.left_size n
  by_cases h : (t.size : Int) ≤ n
  · have := this.1 h; omega
  · by_cases h0 : 0 ≤ n
    · have := this.2 (by omega); omega
    · rw [Tr.left_eq, Tr.lefts_neg _ _ (by omega)]; omega
theorem Tr.lefts_stop (l : List Tr) (n : Int) (i : Nat) (h : Tr.lefts (l.take i) n < 0) : Tr.lefts l n = Tr.lefts (l.take i) n := by
  have key : ∀ d, Tr.lefts (l.take (i + d)) n = Tr.lefts (l.take i) n := by
    intro d
    induction d with
    | zero => rfl
    | succ d ih =>
      by_cases hd : i + d < l.length
      · rw [show i + (d + 1) = i + d + 1 by omega, Tr.lefts_take l n (i + d) hd, ih, if_neg (by omega)]
      · rw [← ih, List.take_of_length_le (by omega), List.take_of_length_le (by omega)]
  have := key l.length
  rw [List.take_of_length_le (by omega)] at this
  exact this
theorem l15Left_c (t : Tr) : t.size < 4611686018427387904 → ∀ n : Int, 0 ≤ n → n < 4611686018427387904 → call C 209 [.agg t.c, .int .i64 n] [] [] = some ([.int .i64 (t.left n)], [], []) := by
  induction t using Tr.ind with
  | _ t ih =>
  intro hsz n hn0 hn1
  have hse := t.size_eq
  have hlen := Tr.len_le t.ts
  have hw1 : IntKind.i64.wrap (n - 1) = n - 1 := wrap_small (by omega) (by omega)
  have hub : ∀ i, Tr.lefts (t.ts.take i) (n - 1) ≤ n - 1 := by
    intro i
    induction i with
    | zero => simp [Tr.lefts]
    | succ i ihi =>
      by_cases hi : i < t.ts.length
      · rw [Tr.lefts_take _ _ i hi]
        split
        · have := Tr.lefts_le t.ts[i] (Tr.lefts (t.ts.take i) (n - 1)); omega
        · exact ihi
      · rw [List.take_of_length_le (by omega)]
        rw [List.take_of_length_le (by omega)] at ihi
        exact ihi
  rw [Tr.left_eq]
  rw [call_pure C (f := 209) (fn := Tryz.f209) (C_P ▸ Tryz.func209) rfl rfl]
  simp (config := { maxSteps := 10000000 }) [C_ty, ty3, ty59, ty61, K209, C_own, own, C_live, C_keep, keep, live209_3, Tr.c_eq t, hw1] <;> (first | omega | (simp_all; done) | skip)
  rw [loop_stop C 209 (J := fun i => ⟨[(5, .int .i64 i), (2, .ptr 128 0), (1, .int .i64 (Tr.lefts (t.ts.take i) (n - 1)))], [(128, [.int .i64 t.op, .int .i64 t.a, .int .i64 t.b, .arr 4 (Tr.cs t.ts)])], []⟩) (n := t.ts.length) (p := fun i => decide (Tr.lefts (t.ts.take i) (n - 1) < 0)) (h0 := ?h0) (step := ?step)]
  case h0 => simp (config := { maxSteps := 10000000 }) [C_ty, ty3, ty59, ty61, K209, C_own, own, C_live, C_keep, keep, live209_3, Tr.lefts] <;> (first | omega | (simp_all; done) | skip)
  case step =>
    intro i hi hp
    have hw := wrap_nat (i := i) (by omega)
    have hp : 0 ≤ Tr.lefts (t.ts.take i) (n - 1) := by simpa using hp
    have hu := hub i
    have hc := ih t.ts[i] (List.getElem_mem hi) (by have := Tr.size_mem (List.getElem_mem hi); omega) _ hp (by omega)
    have htk := Tr.lefts_take t.ts (n - 1) i hi
    rw [if_pos hp] at htk
    simp only [Tr.c_eq] at hc
    simp (config := { maxSteps := 10000000 }) [C_ty, ty3, ty59, ty61, K209, C_own, own, C_live, C_keep, keep, live209_3, Tr.cs_len, Tr.cs_at, hi, hw, hp, hc, htk] <;> (first | omega | (simp_all; done) | skip)
  generalize hs : stop (fun i => decide (Tr.lefts (t.ts.take i) (n - 1) < 0)) t.ts.length = i
  have hle := stop_le (fun i => decide (Tr.lefts (t.ts.take i) (n - 1) < 0)) t.ts.length
  rw [hs] at hle
  by_cases hi : i < t.ts.length
  · have hp := stop_hit (p := fun i => decide (Tr.lefts (t.ts.take i) (n - 1) < 0)) (n := t.ts.length) (by omega)
    rw [hs] at hp
    have hp : Tr.lefts (t.ts.take i) (n - 1) < 0 := by simpa using hp
    have he := Tr.lefts_stop t.ts (n - 1) i hp
    have hp' : ¬ 0 ≤ Tr.lefts (t.ts.take i) (n - 1) := by omega
    simp (config := { maxSteps := 10000000 }) [C_ty, ty3, ty59, ty61, K209, C_own, own, C_live, C_keep, keep, live209_3, Tr.cs_len, hi, hp', he] <;> (first | omega | (simp_all; done) | skip)
  · have he : t.ts.take i = t.ts := List.take_of_length_le (by omega)
    simp (config := { maxSteps := 10000000 }) [C_ty, ty3, ty59, ty61, K209, C_own, own, C_live, C_keep, keep, live209_3, Tr.cs_len, hi, he] <;> (first | omega | (simp_all; done) | skip)
theorem sIsCond_c (t : Tr) (hsz : t.size < 4611686018427387904) : call C 168 [.agg t.c] [] [] = some ([.bool t.isCond], [], []) := by
  have h1 := l15Left_c t hsz 15 (by omega) (by omega)
  have h2 := l15Valid_c t hsz
  simp only [Tr.c_eq] at h1 h2
  have e : decide (t.size ≤ 15) = decide (0 ≤ t.left 15) := by
    have := t.left_size 15
    by_cases h : t.size ≤ 15
    · have h3 := this.1 (by omega); simp [h]; omega
    · have h3 := this.2 (by omega); simp [h]; omega
  unfold Tr.isCond
  rw [e]
  rw [call_pure C (f := 168) (fn := Tryz.f168) (C_P ▸ Tryz.func168) rfl rfl]
  by_cases h0_ : 0 ≤ t.left 15
  · simp (config := { maxSteps := 10000000 }) [C_ty, ty3, ty59, ty61, K209, K210, C_own, own, Tr.c_eq t, h1, h2, h0_] <;> (first | omega | (simp_all; done) | skip)
  · simp (config := { maxSteps := 10000000 }) [C_ty, ty3, ty59, ty61, K209, K210, C_own, own, Tr.c_eq t, h1, h2, h0_] <;> (first | omega | (simp_all; done) | skip)
end Go.AI
/- Conditions evaluated, whatever the leaves say. -/
namespace Go.AI
open Go Go.Proofs
attribute [local congr] bind_left map_left guardOn_congr condOn_congr
attribute [local simp] call_pure start run_seq run_region run_draw arrange run_cond run_block exec_ret exec_exit exec_skip ite_bind ite_map opsW_nil opsW_cons opsW_guard doOp_move doOp_assign doOp_pick doOp_load doOp_nilCheck doOp_fieldAddr doOp_indexAddr doOp_index doOp_slice doOp_binOp doOp_not doOp_neg doOp_convert doOp_extract doOp_build doOp_makeFunc doOp_len doOp_min doOp_max doOp_field doOp_alloc doOp_box doOp_store doOp_buildSlice doOp_makeSlice doOp_append doOp_call cutMk ret tidy sift closed okCell cellsT headOf
set_option maxRecDepth 100000
set_option maxHeartbeats 4000000
set_option linter.unusedSimpArgs false
set_option linter.unusedVariables false
mutual
def Tr.eval (lf : Tr → Bool) : Tr → Bool
  | .node op a b ts => if op = 7 then !((Tr.evals lf ts)[0]?).getD false else if op = 8 then ((Tr.evals lf ts)[0]?).getD false && ((Tr.evals lf ts)[1]?).getD false else if op = 9 then ((Tr.evals lf ts)[0]?).getD false || ((Tr.evals lf ts)[1]?).getD false else lf (.node op a b ts)
def Tr.evals (lf : Tr → Bool) : List Tr → List Bool
  | [] => []
  | t :: r => Tr.eval lf t :: Tr.evals lf r
end
theorem Tr.evals_map (lf : Tr → Bool) : ∀ l : List Tr, Tr.evals lf l = l.map (Tr.eval lf)
  | [] => by simp [Tr.evals]
  | t :: l => by simp [Tr.evals, Tr.evals_map lf l]
def Tr.at (lf : Tr → Bool) (t : Tr) (i : Nat) : Bool := ((t.ts[i]?).map (Tr.eval lf)).getD false
theorem Tr.eval_eq (lf : Tr → Bool) (t : Tr) : t.eval lf = if t.op = 7 then !t.at lf 0 else if t.op = 8 then t.at lf 0 && t.at lf 1 else if t.op = 9 then t.at lf 0 || t.at lf 1 else lf t := by
  cases t
  simp only [Tr.eval, Tr.evals_map, Tr.op, Tr.at, Tr.ts, List.getElem?_map]
  rfl
theorem Tr.areN_len {t : Tr} (h : t.areN = true) : (t.ts.length : Int) = arity t.op := by
  rw [Tr.areN_eq, Bool.and_eq_true] at h
  have := h.1
  simp only [Tr.isNode, Bool.and_eq_true, decide_eq_true_eq] at this
  exact this.1.1
theorem Tr.areN_mem {t : Tr} (h : t.areN = true) {x : Tr} (hx : x ∈ t.ts) : x.areN = true := by
  rw [Tr.areN_eq, Bool.and_eq_true] at h
  exact List.all_eq_true.1 h.2 x hx
theorem Tr.at_eq (lf : Tr → Bool) (t : Tr) {i : Nat} (h : i < t.ts.length) : t.at lf i = t.ts[i].eval lf := by
  simp [Tr.at, h]
theorem evalWith_c (g : FuncId) (cap : List PV) (lf : Tr → Bool) (hio : C.io g = []) (hcap : capOk cap) (hq : ∀ t : Tr, call C g (.agg t.c :: cap) [] [] = some ([.bool (lf t)], [], [])) (t : Tr) :
    t.areN = true → call C 119 [.agg t.c, .fn g cap] [] [] = some ([.bool (t.eval lf)], [], []) := by
  have K := fun call dir f d st vs => callK_pure C call f d st dir g vs hio
  have k1 := hcap.lend
  have k2 := hcap.ptr g
  have k3 := hcap.ptrs
  have k4 := hcap.all
  induction t using Tr.ind with
  | _ t ih =>
  intro hN
  have hlen := Tr.areN_len hN
  have hc := hq t
  rw [Tr.eval_eq]
  by_cases h7 : t.op = 7
  · have hl : t.ts.length = 1 := by rw [h7] at hlen; simp [arity] at hlen; omega
    have h0 := ih t.ts[0] (List.getElem_mem (by omega)) (Tr.areN_mem hN (List.getElem_mem (by omega)))
    have e0 := Tr.at_eq lf t (i := 0) (by omega)
    have g0 := Tr.cs_get (l := t.ts) (i := 0) (by omega)
    rw [← e0] at h0
    simp only [Tr.c_eq] at h0
    rw [call_pure C (f := 119) (fn := Tryz.f119) (C_P ▸ Tryz.func119) rfl rfl]
    simp (config := { maxSteps := 10000000 }) [C_ty, ty3, ty4, ty59, ty61, ty81, K119, C_own, own, Tr.c_eq t, h7, h0, g0, k1, k2, k3, k4] <;> (first | omega | (simp_all; done) | skip)
  · by_cases h8 : t.op = 8
    · have hl : t.ts.length = 2 := by rw [h8] at hlen; simp [arity] at hlen; omega
      have h0 := ih t.ts[0] (List.getElem_mem (by omega)) (Tr.areN_mem hN (List.getElem_mem (by omega)))
      have h1 := ih t.ts[1] (List.getElem_mem (by omega)) (Tr.areN_mem hN (List.getElem_mem (by omega)))
      rw [← Tr.at_eq lf t (i := 0) (by omega)] at h0
      rw [← Tr.at_eq lf t (i := 1) (by omega)] at h1
      have g0 := Tr.cs_get (l := t.ts) (i := 0) (by omega)
      have g1 := Tr.cs_get (l := t.ts) (i := 1) (by omega)
      simp only [Tr.c_eq] at h0 h1
      rw [call_pure C (f := 119) (fn := Tryz.f119) (C_P ▸ Tryz.func119) rfl rfl]
      by_cases h0_ : t.at lf 0 = true
      · simp (config := { maxSteps := 10000000 }) [C_ty, ty3, ty4, ty59, ty61, ty81, K119, C_own, own, Tr.c_eq t, h8, h0, h1, g0, g1, k1, k2, k3, k4, h0_] <;> (first | omega | (simp_all; done) | skip)
      · simp (config := { maxSteps := 10000000 }) [C_ty, ty3, ty4, ty59, ty61, ty81, K119, C_own, own, Tr.c_eq t, h8, h0, h1, g0, g1, k1, k2, k3, k4, h0_] <;> (first | omega | (simp_all; done) | skip)
    · by_cases h9 : t.op = 9
      · have hl : t.ts.length = 2 := by rw [h9] at hlen; simp [arity] at hlen; omega
        have h0 := ih t.ts[0] (List.getElem_mem (by omega)) (Tr.areN_mem hN (List.getElem_mem (by omega)))
        have h1 := ih t.ts[1] (List.getElem_mem (by omega)) (Tr.areN_mem hN (List.getElem_mem (by omega)))
        rw [← Tr.at_eq lf t (i := 0) (by omega)] at h0
        rw [← Tr.at_eq lf t (i := 1) (by omega)] at h1
        have g0 := Tr.cs_get (l := t.ts) (i := 0) (by omega)
        have g1 := Tr.cs_get (l := t.ts) (i := 1) (by omega)
        simp only [Tr.c_eq] at h0 h1
        rw [call_pure C (f := 119) (fn := Tryz.f119) (C_P ▸ Tryz.func119) rfl rfl]
        by_cases h0_ : t.at lf 0 = true
        · simp (config := { maxSteps := 10000000 }) [C_ty, ty3, ty4, ty59, ty61, ty81, K119, C_own, own, Tr.c_eq t, h9, h0, h1, g0, g1, k1, k2, k3, k4, h0_] <;> (first | omega | (simp_all; done) | skip)
        · simp (config := { maxSteps := 10000000 }) [C_ty, ty3, ty4, ty59, ty61, ty81, K119, C_own, own, Tr.c_eq t, h9, h0, h1, g0, g1, k1, k2, k3, k4, h0_] <;> (first | omega | (simp_all; done) | skip)
      · simp only [Tr.c_eq] at hc
        rw [call_pure C (f := 119) (fn := Tryz.f119) (C_P ▸ Tryz.func119) rfl rfl]
        simp (config := { maxSteps := 10000000 }) [C_ty, ty3, ty4, ty59, ty61, ty81, K119, C_own, own, Tr.c_eq t, h7, h8, h9, hc, K, k1, k2, k3, k4] <;> (first | omega | (simp_all; done) | skip)
/-- A pair of roles. -/
structure Inc where
  (g l : Int)
def Inc.c (x : Inc) : List PV := [.int .i64 x.g, .int .i64 x.l]
/-- A request. -/
structure Rq where
  (p d g a o n : Int)
def Rq.c (x : Rq) : List PV := [.int .i64 x.p, .int .i64 x.d, .int .i64 x.g, .int .i64 x.a, .int .i64 x.o, .int .i64 x.n]
def incs (l : List Inc) : PV := .arr 2 (l.map Inc.c)
def fas (l : List Fa) : PV := .arr 6 (l.map Fa.c)
theorem l18Eval_c (l : List Inc) (s : List Fa) (q : Rq) (lf : Tr → Bool) (hq : ∀ t : Tr, call C 148 [incs l, fas s, .agg t.c, .agg q.c] [] [] = some ([.bool (lf t)], [], [])) (t : Tr) :
    t.areN = true → call C 169 [incs l, fas s, .agg t.c, .agg q.c] [] [] = some ([.bool (t.eval lf)], [], []) := by
  induction t using Tr.ind with
  | _ t ih =>
  intro hN
  have hlen := Tr.areN_len hN
  have hc := hq t
  rw [Tr.eval_eq]
  simp only [incs, fas, Rq.c] at ih hc ⊢
  by_cases h7 : t.op = 7
  · have hl : t.ts.length = 1 := by rw [h7] at hlen; simp [arity] at hlen; omega
    have h0 := ih t.ts[0] (List.getElem_mem (by omega)) (Tr.areN_mem hN (List.getElem_mem (by omega)))
    have e0 := Tr.at_eq lf t (i := 0) (by omega)
    have g0 := Tr.cs_get (l := t.ts) (i := 0) (by omega)
    rw [← e0] at h0
    simp only [Tr.c_eq] at h0
    rw [call_pure C (f := 169) (fn := Tryz.f169) (C_P ▸ Tryz.func169) rfl rfl]
    simp (config := { maxSteps := 10000000 }) [C_ty, ty3, ty4, ty34, ty36, ty42, ty59, ty61, ty130, ty134, K148, K169, C_own, own, C_order, order, Tr.c_eq t, h7, h0, g0] <;> (first | omega | (simp_all; done) | skip)
  · by_cases h8 : t.op = 8
    · have hl : t.ts.length = 2 := by rw [h8] at hlen; simp [arity] at hlen; omega
      have h0 := ih t.ts[0] (List.getElem_mem (by omega)) (Tr.areN_mem hN (List.getElem_mem (by omega)))
      have h1 := ih t.ts[1] (List.getElem_mem (by omega)) (Tr.areN_mem hN (List.getElem_mem (by omega)))
      rw [← Tr.at_eq lf t (i := 0) (by omega)] at h0
      rw [← Tr.at_eq lf t (i := 1) (by omega)] at h1
      have g0 := Tr.cs_get (l := t.ts) (i := 0) (by omega)
      have g1 := Tr.cs_get (l := t.ts) (i := 1) (by omega)
      simp only [Tr.c_eq] at h0 h1
      rw [call_pure C (f := 169) (fn := Tryz.f169) (C_P ▸ Tryz.func169) rfl rfl]
      by_cases h0_ : t.at lf 0 = true
      · simp (config := { maxSteps := 10000000 }) [C_ty, ty3, ty4, ty34, ty36, ty42, ty59, ty61, ty130, ty134, K148, K169, C_own, own, C_order, order, Tr.c_eq t, h8, h0, h1, g0, g1, h0_] <;> (first | omega | (simp_all; done) | skip)
      · simp (config := { maxSteps := 10000000 }) [C_ty, ty3, ty4, ty34, ty36, ty42, ty59, ty61, ty130, ty134, K148, K169, C_own, own, C_order, order, Tr.c_eq t, h8, h0, h1, g0, g1, h0_] <;> (first | omega | (simp_all; done) | skip)
    · by_cases h9 : t.op = 9
      · have hl : t.ts.length = 2 := by rw [h9] at hlen; simp [arity] at hlen; omega
        have h0 := ih t.ts[0] (List.getElem_mem (by omega)) (Tr.areN_mem hN (List.getElem_mem (by omega)))
        have h1 := ih t.ts[1] (List.getElem_mem (by omega)) (Tr.areN_mem hN (List.getElem_mem (by omega)))
        rw [← Tr.at_eq lf t (i := 0) (by omega)] at h0
        rw [← Tr.at_eq lf t (i := 1) (by omega)] at h1
        have g0 := Tr.cs_get (l := t.ts) (i := 0) (by omega)
        have g1 := Tr.cs_get (l := t.ts) (i := 1) (by omega)
        simp only [Tr.c_eq] at h0 h1
        rw [call_pure C (f := 169) (fn := Tryz.f169) (C_P ▸ Tryz.func169) rfl rfl]
        by_cases h0_ : t.at lf 0 = true
        · simp (config := { maxSteps := 10000000 }) [C_ty, ty3, ty4, ty34, ty36, ty42, ty59, ty61, ty130, ty134, K148, K169, C_own, own, C_order, order, Tr.c_eq t, h9, h0, h1, g0, g1, h0_] <;> (first | omega | (simp_all; done) | skip)
        · simp (config := { maxSteps := 10000000 }) [C_ty, ty3, ty4, ty34, ty36, ty42, ty59, ty61, ty130, ty134, K148, K169, C_own, own, C_order, order, Tr.c_eq t, h9, h0, h1, g0, g1, h0_] <;> (first | omega | (simp_all; done) | skip)
      · simp only [Tr.c_eq] at hc
        rw [call_pure C (f := 169) (fn := Tryz.f169) (C_P ▸ Tryz.func169) rfl rfl]
        simp (config := { maxSteps := 10000000 }) [C_ty, ty3, ty4, ty34, ty36, ty42, ty59, ty61, ty130, ty134, K148, K169, C_own, own, C_order, order, Tr.c_eq t, h7, h8, h9, hc] <;> (first | omega | (simp_all; done) | skip)
end Go.AI
/- Facts found. -/
namespace Go.AI
open Go Go.Proofs
attribute [local congr] bind_left map_left guardOn_congr condOn_congr
attribute [local simp] call_pure start run_seq run_region run_draw arrange run_cond run_block exec_ret exec_exit exec_skip ite_bind ite_map opsW_nil opsW_cons opsW_guard doOp_move doOp_assign doOp_pick doOp_load doOp_nilCheck doOp_fieldAddr doOp_indexAddr doOp_index doOp_slice doOp_binOp doOp_not doOp_neg doOp_convert doOp_extract doOp_build doOp_makeFunc doOp_len doOp_min doOp_max doOp_field doOp_alloc doOp_box doOp_store doOp_buildSlice doOp_makeSlice doOp_append doOp_call cutMk ret tidy sift closed okCell cellsT headOf
set_option maxRecDepth 100000
set_option maxHeartbeats 4000000
set_option linter.unusedSimpArgs false
set_option linter.unusedVariables false
theorem fa_get {l : List Fa} {i : Nat} (h : i < l.length) : (l.map Fa.c)[i]? = some [.int .i64 l[i].k, .int .i64 l[i].s, .int .i64 l[i].v, .int .i64 l[i].i, .int .i64 l[i].a, .int .i64 l[i].u] := by
  simp [h, Fa.c]
theorem IndexFuncF_c (l : List Fa) (g : FuncId) (cap : List PV) (q : Fa → Bool) (hio : C.io g = []) (hcap : capOk cap) (hl : l.length < 9223372036854775807) (hq : ∀ t ∈ l, call C g (.agg t.c :: cap) [] [] = some ([.bool (q t)], [], [])) :
    call C 213 [.arr 6 (l.map Fa.c), .fn g cap] [] [] = some ([.int .i64 (placeOf (fun i => (l[i]?).any q) l.length)], [], []) := by
  have K := fun call dir f d st vs => callK_pure C call f d st dir g vs hio
  have h1 := hcap.lend
  have h2 := hcap.ptr g
  have h3 := hcap.ptrs
  have h4 := hcap.all
  rw [call_pure C (f := 213) (fn := Tryz.f213) (C_P ▸ Tryz.func213) rfl rfl]
  simp (config := { maxSteps := 10000000 }) [C_ty, ty3, ty36, ty134, C_live, C_keep, keep, live213_2, List.length_map] <;> (first | omega | (simp_all; done) | skip)
  rw [loop_stop C 213 (J := fun i => ⟨[(8, .int .i64 i), (7, .int .i64 l.length), (1, .fn g cap), (0, .arr 6 (l.map Fa.c))], [], []⟩) (n := l.length) (p := fun i => (l[i]?).any q) (h0 := ?h0) (step := ?step)]
  case h0 => simp (config := { maxSteps := 10000000 }) [C_ty, ty3, ty36, ty134, C_live, C_keep, keep, live213_2, h2] <;> (first | omega | (simp_all; done) | skip)
  case step =>
    intro i hi hp
    have hw := wrap_nat (i := i) (by omega)
    have hg := fa_get hi
    have hc := hq l[i] (List.getElem_mem hi)
    simp only [Fa.c] at hc
    have hne : q l[i] = false := by simpa [hi] using hp
    simp (config := { maxSteps := 10000000 }) [C_ty, ty3, ty36, ty134, C_live, C_keep, keep, live213_2, hi, hw, hg, Fa.c, hne, K, h1, h2, h3, h4, hc] <;> (first | omega | (simp_all; done) | skip)
  unfold placeOf
  generalize hs : stop (fun i => (l[i]?).any q) l.length = i
  have hle := stop_le (fun i => (l[i]?).any q) l.length
  rw [hs] at hle
  by_cases hi : i < l.length
  · have hp := stop_hit (p := fun i => (l[i]?).any q) (n := l.length) (by omega)
    rw [hs] at hp
    have hg := fa_get hi
    have he : q l[i] = true := by simpa [hi] using hp
    have hc := hq l[i] (List.getElem_mem hi)
    simp only [Fa.c] at hc
    simp (config := { maxSteps := 10000000 }) [C_ty, ty3, ty36, ty134, C_live, C_keep, keep, live213_2, hi, hg, Fa.c, he, K, h1, h2, h3, h4, hc] <;> (first | omega | (simp_all; done) | skip)
  · simp (config := { maxSteps := 10000000 }) [C_ty, ty3, ty36, ty134, C_live, C_keep, keep, live213_2, hi] <;> (first | omega | (simp_all; done) | skip)

def isFor (k s v n age : Int) (f : Fa) : Bool := decide (f.k = k) && decide (f.s = s) && decide (f.v = v) && holdsAt f n age
def findFact (l : List Fa) (k s v n age : Int) : Int := placeOf (fun i => (l[i]?).any (isFor k s v n age)) l.length
theorem FindFact_c (l : List Fa) (k s v n age : Int) (hl : l.length < 9223372036854775807) : call C 180 [.arr 6 (l.map Fa.c), .int .i64 k, .int .i64 s, .int .i64 v, .int .i64 n, .int .i64 age] [] [] = some ([.int .i64 (findFact l k s v n age)], [], []) := by
  have hcl : ∀ f ∈ l, call C 214 (.agg f.c :: [.cptr [.int .i64 k] 0, .cptr [.int .i64 s] 0, .cptr [.int .i64 v] 0, .cptr [.int .i64 n] 0, .cptr [.int .i64 age] 0]) [] [] = some ([.bool (isFor k s v n age f)], [], []) := by
    intro f _
    obtain ⟨k', s', v', i', a', u'⟩ := f
    rw [call_pure C (f := 214) (fn := Tryz.f214) (C_P ▸ Tryz.func214) rfl rfl]
    by_cases h0_ : k' = k
    · by_cases h1_ : s' = s
      · by_cases h2_ : v' = v
        · simp (config := { maxSteps := 10000000 }) [C_ty, ty3, ty134, K184, C_own, own, Fa.c, isFor, HoldsAt_v, h0_, h1_, h2_] <;> (first | omega | (simp_all; done) | skip)
        · simp (config := { maxSteps := 10000000 }) [C_ty, ty3, ty134, K184, C_own, own, Fa.c, isFor, HoldsAt_v, h0_, h1_, h2_] <;> (first | omega | (simp_all; done) | skip)
      · simp (config := { maxSteps := 10000000 }) [C_ty, ty3, ty134, K184, C_own, own, Fa.c, isFor, HoldsAt_v, h0_, h1_] <;> (first | omega | (simp_all; done) | skip)
    · simp (config := { maxSteps := 10000000 }) [C_ty, ty3, ty134, K184, C_own, own, Fa.c, isFor, HoldsAt_v, h0_] <;> (first | omega | (simp_all; done) | skip)
  have hcf := IndexFuncF_c l 214 [.cptr [.int .i64 k] 0, .cptr [.int .i64 s] 0, .cptr [.int .i64 v] 0, .cptr [.int .i64 n] 0, .cptr [.int .i64 age] 0] (isFor k s v n age) rfl (fun c hc => by simp at hc; rcases hc with rfl | rfl | rfl | rfl | rfl <;> exact ⟨_, _, rfl⟩) hl hcl
  rw [call_pure C (f := 180) (fn := Tryz.f180) (C_P ▸ Tryz.func180) rfl rfl]
  simp (config := { maxSteps := 10000000 }) [C_ty, ty3, ty36, ty134, ty217, K213, K214, C_own, own, hcf, findFact] <;> (first | omega | (simp_all; done) | skip)
theorem sFindFact_c (l : List Fa) (k s v n age : Int) (hl : l.length < 9223372036854775807) : call C 194 [.arr 6 (l.map Fa.c), .int .i64 k, .int .i64 s, .int .i64 v, .int .i64 n, .int .i64 age] [] [] = some ([.int .i64 (findFact l k s v n age)], [], []) := by
  rw [call_pure C (f := 194) (fn := Tryz.f194) (C_P ▸ Tryz.func194) rfl rfl]
  simp (config := { maxSteps := 10000000 }) [C_ty, ty3, ty36, ty134, K220, C_own, own, C_live, C_keep, keep, live194_2] <;> (first | omega | (simp_all; done) | skip)
  rw [loop_stop C 194 (J := fun i => ⟨[(13, .int .i64 i), (5, .int .i64 age), (4, .int .i64 n), (3, .int .i64 v), (2, .int .i64 s), (1, .int .i64 k), (0, .arr 6 (l.map Fa.c))], [], []⟩) (n := l.length) (p := fun i => (l[i]?).any (isFor k s v n age)) (h0 := ?h0) (step := ?step)]
  case h0 => simp (config := { maxSteps := 10000000 }) [C_ty, ty3, ty36, ty134, K220, C_own, own, C_live, C_keep, keep, live194_2] <;> (first | omega | (simp_all; done) | skip)
  case step =>
    intro i hi hp
    have hw := wrap_nat (i := i) (by omega)
    have hne : isFor k s v n age l[i] = false := by simpa [hi] using hp
    obtain ⟨f, hf⟩ : ∃ f, l[i] = f := ⟨_, rfl⟩
    obtain ⟨k', s', v', i', a', u'⟩ := f
    rw [hf] at hne
    simp only [isFor] at hne
    by_cases h0_ : k' = k
    · by_cases h1_ : s' = s
      · by_cases h2_ : v' = v
        · by_cases h3_ : holdsAt ⟨k, s, v, i', a', u'⟩ n age = true
          · simp (config := { maxSteps := 10000000 }) [C_ty, ty3, ty36, ty134, K220, C_own, own, C_live, C_keep, keep, live194_2, hi, hw, hf, Fa.c, sHoldsAt_v, h0_, h1_, h2_, h3_] <;> (first | omega | (simp_all; done) | skip)
          · simp (config := { maxSteps := 10000000 }) [C_ty, ty3, ty36, ty134, K220, C_own, own, C_live, C_keep, keep, live194_2, hi, hw, hf, Fa.c, sHoldsAt_v, h0_, h1_, h2_, h3_] <;> (first | omega | (simp_all; done) | skip)
        · simp (config := { maxSteps := 10000000 }) [C_ty, ty3, ty36, ty134, K220, C_own, own, C_live, C_keep, keep, live194_2, hi, hw, hf, Fa.c, sHoldsAt_v, h0_, h1_, h2_] <;> (first | omega | (simp_all; done) | skip)
      · simp (config := { maxSteps := 10000000 }) [C_ty, ty3, ty36, ty134, K220, C_own, own, C_live, C_keep, keep, live194_2, hi, hw, hf, Fa.c, sHoldsAt_v, h0_, h1_] <;> (first | omega | (simp_all; done) | skip)
    · simp (config := { maxSteps := 10000000 }) [C_ty, ty3, ty36, ty134, K220, C_own, own, C_live, C_keep, keep, live194_2, hi, hw, hf, Fa.c, sHoldsAt_v, h0_] <;> (first | omega | (simp_all; done) | skip)
  unfold findFact placeOf
  generalize hs : stop (fun i => (l[i]?).any (isFor k s v n age)) l.length = i
  have hle := stop_le (fun i => (l[i]?).any (isFor k s v n age)) l.length
  rw [hs] at hle
  by_cases hi : i < l.length
  · have hp := stop_hit (p := fun i => (l[i]?).any (isFor k s v n age)) (n := l.length) (by omega)
    rw [hs] at hp
    have he : isFor k s v n age l[i] = true := by simpa [hi] using hp
    obtain ⟨f, hf⟩ : ∃ f, l[i] = f := ⟨_, rfl⟩
    obtain ⟨k', s', v', i', a', u'⟩ := f
    rw [hf] at he
    simp only [isFor, Bool.and_eq_true, decide_eq_true_eq] at he
    obtain ⟨⟨⟨rfl, rfl⟩, rfl⟩, e4⟩ := he
    simp (config := { maxSteps := 10000000 }) [C_ty, ty3, ty36, ty134, K220, C_own, own, C_live, C_keep, keep, live194_2, hi, hf, Fa.c, sHoldsAt_v, e4] <;> (first | omega | (simp_all; done) | skip)
  · simp (config := { maxSteps := 10000000 }) [C_ty, ty3, ty36, ty134, K220, C_own, own, C_live, C_keep, keep, live194_2, hi] <;> (first | omega | (simp_all; done) | skip)
end Go.AI
/- The best value. -/
namespace Go.AI
open Go Go.Proofs
attribute [local congr] bind_left map_left guardOn_congr condOn_congr
attribute [local simp] call_pure start run_seq run_region run_draw arrange run_cond run_block exec_ret exec_exit exec_skip ite_bind ite_map opsW_nil opsW_cons opsW_guard doOp_move doOp_assign doOp_pick doOp_load doOp_nilCheck doOp_fieldAddr doOp_indexAddr doOp_index doOp_slice doOp_binOp doOp_not doOp_neg doOp_convert doOp_extract doOp_build doOp_makeFunc doOp_len doOp_min doOp_max doOp_field doOp_alloc doOp_box doOp_store doOp_buildSlice doOp_makeSlice doOp_append doOp_call cutMk ret tidy sift closed okCell cellsT headOf
set_option maxRecDepth 100000
set_option maxHeartbeats 4000000
set_option linter.unusedSimpArgs false
set_option linter.unusedVariables false
theorem foldl_take {α β : Type} (f : β → α → β) (b : β) : ∀ (l : List α) (i : Nat) (h : i < l.length), (l.take (i + 1)).foldl f b = f ((l.take i).foldl f b) l[i] := by
  intro l i h
  rw [List.take_succ_eq_append_getElem h, List.foldl_append]
  rfl
def mx (a b : Int) : Int := if a < b then b else a
theorem sMax_c (a b : Int) : call C 165 [.int .i64 a, .int .i64 b] [] [] = some ([.int .i64 (mx a b)], [], []) := by
  rw [call_pure C (f := 165) (fn := Tryz.f165) (C_P ▸ Tryz.func165) rfl rfl]
  by_cases h0_ : a < b
  · simp (config := { maxSteps := 10000000 }) [C_ty, ty3, mx, h0_] <;> (first | omega | (simp_all; done) | skip)
  · simp (config := { maxSteps := 10000000 }) [C_ty, ty3, mx, h0_] <;> (first | omega | (simp_all; done) | skip)
def bestStep (k s n age : Int) (best : Int) (f : Fa) : Int := if f.k = k ∧ f.s = s ∧ holdsAt f n age = true then mx best f.v else best
def bestOf (l : List Fa) (k s n age : Int) : Int := l.foldl (bestStep k s n age) (-1)
theorem BestValue_c (l : List Fa) (k s n age : Int) (hl : l.length < 9223372036854775807) : call C 181 [.arr 6 (l.map Fa.c), .int .i64 k, .int .i64 s, .int .i64 n, .int .i64 age] [] [] = some ([.int .i64 (bestOf l k s n age)], [], []) := by
  rw [call_pure C (f := 181) (fn := Tryz.f181) (C_P ▸ Tryz.func181) rfl rfl]
  simp (config := { maxSteps := 10000000 }) [C_ty, ty3, ty36, ty134, K184, C_own, own, C_live, C_keep, keep, live181_3, List.length_map] <;> (first | omega | (simp_all; done) | skip)
  rw [loop_to C 181 (J := fun i => ⟨[(16, .int .i64 i), (15, .int .i64 l.length), (14, .arr 6 (l.map Fa.c)), (11, .int .i64 ((l.take i).foldl (bestStep k s n age) (-1))), (4, .int .i64 age), (3, .int .i64 n), (2, .int .i64 s), (1, .int .i64 k)], [], []⟩) (n := l.length) (h0 := ?h0) (step := ?step)]
  case h0 => simp (config := { maxSteps := 10000000 }) [C_ty, ty3, ty36, ty134, K184, C_own, own, C_live, C_keep, keep, live181_3] <;> (first | omega | (simp_all; done) | skip)
  case step =>
    intro i hi
    have hw := wrap_nat (i := i) (by omega)
    have hft := foldl_take (bestStep k s n age) (-1) l i hi
    obtain ⟨f, hf⟩ : ∃ f, l[i] = f := ⟨_, rfl⟩
    have hg := fa_get hi
    rw [hf] at hft hg
    obtain ⟨k', s', v', i', a', u'⟩ := f
    simp only [bestStep] at hft ⊢
    by_cases h0_ : k' = k
    · by_cases h1_ : s' = s
      · by_cases h2_ : holdsAt ⟨k, s, v', i', a', u'⟩ n age = true
        · simp (config := { maxSteps := 10000000 }) [C_ty, ty3, ty36, ty134, K184, C_own, own, C_live, C_keep, keep, live181_3, hi, hw, hf, Fa.c, hft, HoldsAt_v, mx, h0_, h1_, h2_] <;> (first | omega | (simp_all; done) | skip)
        · simp (config := { maxSteps := 10000000 }) [C_ty, ty3, ty36, ty134, K184, C_own, own, C_live, C_keep, keep, live181_3, hi, hw, hf, Fa.c, hft, HoldsAt_v, mx, h0_, h1_, h2_] <;> (first | omega | (simp_all; done) | skip)
      · simp (config := { maxSteps := 10000000 }) [C_ty, ty3, ty36, ty134, K184, C_own, own, C_live, C_keep, keep, live181_3, hi, hw, hf, Fa.c, hft, HoldsAt_v, mx, h0_, h1_] <;> (first | omega | (simp_all; done) | skip)
    · simp (config := { maxSteps := 10000000 }) [C_ty, ty3, ty36, ty134, K184, C_own, own, C_live, C_keep, keep, live181_3, hi, hw, hf, Fa.c, hft, HoldsAt_v, mx, h0_] <;> (first | omega | (simp_all; done) | skip)
  simp (config := { maxSteps := 10000000 }) [C_ty, ty3, ty36, ty134, K184, C_own, own, C_live, C_keep, keep, live181_3, bestOf] <;> (first | omega | (simp_all; done) | skip)
theorem sBestValue_c (l : List Fa) (k s n age : Int) (hl : l.length < 9223372036854775807) : call C 195 [.arr 6 (l.map Fa.c), .int .i64 k, .int .i64 s, .int .i64 n, .int .i64 age] [] [] = some ([.int .i64 (bestOf l k s n age)], [], []) := by
  rw [call_pure C (f := 195) (fn := Tryz.f195) (C_P ▸ Tryz.func195) rfl rfl]
  simp (config := { maxSteps := 10000000 }) [C_ty, ty3, ty36, ty134, K165, K220, C_own, own, C_live, C_keep, keep, live195_3] <;> (first | omega | (simp_all; done) | skip)
  rw [loop_to C 195 (J := fun i => ⟨[(12, .int .i64 i), (11, .int .i64 ((l.take i).foldl (bestStep k s n age) (-1))), (4, .int .i64 age), (3, .int .i64 n), (2, .int .i64 s), (1, .int .i64 k), (0, .arr 6 (l.map Fa.c))], [], []⟩) (n := l.length) (h0 := ?h0) (step := ?step)]
  case h0 => simp (config := { maxSteps := 10000000 }) [C_ty, ty3, ty36, ty134, K165, K220, C_own, own, C_live, C_keep, keep, live195_3] <;> (first | omega | (simp_all; done) | skip)
  case step =>
    intro i hi
    have hw := wrap_nat (i := i) (by omega)
    have hft := foldl_take (bestStep k s n age) (-1) l i hi
    obtain ⟨f, hf⟩ : ∃ f, l[i] = f := ⟨_, rfl⟩
    rw [hf] at hft
    obtain ⟨k', s', v', i', a', u'⟩ := f
    simp only [bestStep] at hft ⊢
    by_cases h0_ : k' = k
    · by_cases h1_ : s' = s
      · by_cases h2_ : holdsAt ⟨k, s, v', i', a', u'⟩ n age = true
        · simp (config := { maxSteps := 10000000 }) [C_ty, ty3, ty36, ty134, K165, K220, C_own, own, C_live, C_keep, keep, live195_3, hi, hw, hf, Fa.c, hft, sHoldsAt_v, sMax_c, h0_, h1_, h2_] <;> (first | omega | (simp_all; done) | skip)
        · simp (config := { maxSteps := 10000000 }) [C_ty, ty3, ty36, ty134, K165, K220, C_own, own, C_live, C_keep, keep, live195_3, hi, hw, hf, Fa.c, hft, sHoldsAt_v, sMax_c, h0_, h1_, h2_] <;> (first | omega | (simp_all; done) | skip)
      · simp (config := { maxSteps := 10000000 }) [C_ty, ty3, ty36, ty134, K165, K220, C_own, own, C_live, C_keep, keep, live195_3, hi, hw, hf, Fa.c, hft, sHoldsAt_v, sMax_c, h0_, h1_] <;> (first | omega | (simp_all; done) | skip)
    · simp (config := { maxSteps := 10000000 }) [C_ty, ty3, ty36, ty134, K165, K220, C_own, own, C_live, C_keep, keep, live195_3, hi, hw, hf, Fa.c, hft, sHoldsAt_v, sMax_c, h0_] <;> (first | omega | (simp_all; done) | skip)
  simp (config := { maxSteps := 10000000 }) [C_ty, ty3, ty36, ty134, K165, K220, C_own, own, C_live, C_keep, keep, live195_3, bestOf] <;> (first | omega | (simp_all; done) | skip)
end Go.AI
/- Roles, as the reference counts them. -/
namespace Go.AI
open Go Go.Proofs
attribute [local congr] bind_left map_left guardOn_congr condOn_congr
attribute [local simp] call_pure start run_seq run_region run_draw arrange run_cond run_block exec_ret exec_exit exec_skip ite_bind ite_map opsW_nil opsW_cons opsW_guard doOp_move doOp_assign doOp_pick doOp_load doOp_nilCheck doOp_fieldAddr doOp_indexAddr doOp_index doOp_slice doOp_binOp doOp_not doOp_neg doOp_convert doOp_extract doOp_build doOp_makeFunc doOp_len doOp_min doOp_max doOp_field doOp_alloc doOp_box doOp_store doOp_buildSlice doOp_makeSlice doOp_append doOp_call cutMk ret tidy sift closed okCell cellsT headOf
set_option maxRecDepth 100000
set_option maxHeartbeats 4000000
set_option linter.unusedSimpArgs false
set_option linter.unusedVariables false
def boolRow (m : List Bool) : List (List PV) := m.map fun b => [.bool b]
theorem boolRow_get {m : List Bool} {i : Nat} (h : i < m.length) : (boolRow m)[i]? = some [.bool m[i]] := by simp [boolRow, h]
theorem boolRow_len (m : List Bool) : (boolRow m).length = m.length := by simp [boolRow]
theorem boolRow_set (m : List Bool) (i : Nat) (b : Bool) : (boolRow m).set i [.bool b] = boolRow (m.set i b) := by simp [boolRow, List.map_set]
theorem intRow_append (l r : List Int) : intRow (l ++ r) = intRow l ++ intRow r := by simp [intRow]
def marked (m : List Bool) (i : Nat) : Bool := (m[i]?).getD false
def pairStep (m : List Bool) (x : Inc) : List Bool := if inB 0 5 x.g && (inB 0 5 x.l && marked m x.g.toNat) then m.set x.l.toNat true else m
theorem pairStep_len (m : List Bool) (x : Inc) : (pairStep m x).length = m.length := by
  unfold pairStep
  split <;> simp
def round (l : List Inc) (m : List Bool) : List Bool := l.foldl pairStep m
theorem foldl_len (l : List Inc) : ∀ m : List Bool, (l.foldl pairStep m).length = m.length := by
  induction l with
  | nil => intro m; rfl
  | cons x l ih => intro m; rw [List.foldl_cons, ih, pairStep_len]
def rounds (l : List Inc) : Nat → List Bool → List Bool
  | 0, m => m
  | n + 1, m => round l (rounds l n m)
theorem rounds_len (l : List Inc) (n : Nat) (m : List Bool) : (rounds l n m).length = m.length := by
  induction n with
  | zero => rfl
  | succ n ih => rw [rounds, round, foldl_len, ih]
def startMarks (r : Int) : List Bool := (List.replicate 6 false).set r.toNat true
def marksUnder (l : List Inc) (r : Int) : List Bool := rounds l 6 (startMarks r)
def markedUpto (m : List Bool) (n : Nat) : List Int := ((List.range n).filter (marked m)).map Int.ofNat
theorem markedUpto_succ (m : List Bool) (n : Nat) : markedUpto m (n + 1) = if marked m n then markedUpto m n ++ [(n : Int)] else markedUpto m n := by
  unfold markedUpto
  rw [List.range_succ, List.filter_append, List.map_append]
  cases h : marked m n <;> simp [h]
theorem markedUpto_len (m : List Bool) (n : Nat) : (markedUpto m n).length ≤ n := by
  unfold markedUpto
  rw [List.length_map]
  exact Nat.le_trans (List.length_filter_le _ _) (by simp)
def under (l : List Inc) (r : Int) : List Int := if inB 0 5 r then markedUpto (marksUnder l r) 6 else []
theorem inc_get {l : List Inc} {i : Nat} (h : i < l.length) : (l.map Inc.c)[i]? = some [.int .i64 l[i].g, .int .i64 l[i].l] := by simp [h, Inc.c]
theorem nat_le5 (n : Nat) : ((n : Int) ≤ 5) = (n < 6) := by apply propext; omega
theorem boolRow_at {m : List Bool} {i : Nat} (h : i < (boolRow m).length) : (boolRow m)[i] = [.bool (m[i]'(by simpa [boolRow] using h))] := by simp [boolRow]
theorem inc_at {l : List Inc} {i : Nat} (h : i < (l.map Inc.c).length) : (l.map Inc.c)[i] = [.int .i64 (l[i]'(by simpa using h)).g, .int .i64 (l[i]'(by simpa using h)).l] := by simp [Inc.c]
theorem marked_at {m : List Bool} {i : Nat} (h : i < m.length) : m[i] = marked m i := by simp [marked, h]
/-- A round over the pairs. -/
theorem sRolesUnder_c (l : List Inc) (r : Int) (hl : l.length < 9223372036854775807) : call C 230 [.arr 2 (l.map Inc.c), .int .i64 r] [] [] = some ([.oarr 3 (intRow (under l r))], [], []) := by
  by_cases hr : inB 0 5 r = false
  · rw [call_pure C (f := 230) (fn := Tryz.f230) (C_P ▸ Tryz.func230) rfl rfl]
    simp (config := { maxSteps := 10000000 }) [C_ty, ty3, ty4, ty32, ty34, ty130, ty159, K132, C_own, own, C_live, C_keep, keep, live230_10, live230_15, live230_7, l1In_c, hr, under, intRow] <;> (first | omega | (simp_all; done) | skip)
  have hr : inB 0 5 r = true := by simpa using hr
  have hr' := inB_iff.1 hr
  have hrn : r.toNat < 6 := by omega
  have hrn' : r < 6 := by omega
  have hs0 : (startMarks r).length = 6 := by simp [startMarks]
  have e1 : List.replicate 6 [PV.bool false] = boolRow (List.replicate 6 false) := rfl
  have e2 : (List.replicate 6 false).set r.toNat true = startMarks r := rfl
  rw [call_pure C (f := 230) (fn := Tryz.f230) (C_P ▸ Tryz.func230) rfl rfl]
  simp (config := { maxSteps := 10000000 }) [C_ty, ty3, ty4, ty32, ty34, ty130, ty159, K132, C_own, own, C_live, C_keep, keep, live230_10, live230_15, live230_7, l1In_c, hr, hr', hrn, hrn', e1, e2, boolRow_len, boolRow_at, boolRow_set, -List.reduceReplicate] <;> (first | omega | (simp_all; done) | skip)
  rw [loop_to C 230 (J := fun n => ⟨[(7, .int .i64 n), (6, .ref 960 0 6 6), (5, .ref 640 0 0 0), (0, .arr 2 (l.map Inc.c))], [], [(960, ⟨false, 6, 4, boolRow (rounds l n (startMarks r))⟩), (640, ⟨false, 0, 3, []⟩)]⟩) (n := 6) (h0 := ?h0) (step := ?step)]
  case h0 => simp (config := { maxSteps := 10000000 }) [C_ty, ty3, ty4, ty32, ty34, ty130, ty159, K132, C_own, own, C_live, C_keep, keep, live230_10, live230_15, live230_7, rounds] <;> (first | omega | (simp_all; done) | skip)
  case step =>
    intro n hn
    have hw := wrap_nat (i := n) (by omega)
    have hn' : (n : Int) ≤ 5 := by omega
    have hrl : (rounds l n (startMarks r)).length = 6 := by rw [rounds_len, hs0]
    have hr2 : rounds l (n + 1) (startMarks r) = l.foldl pairStep (rounds l n (startMarks r)) := rfl
    rw [hr2]
    clear hr2
    generalize rounds l n (startMarks r) = m at *
    simp (config := { maxSteps := 10000000 }) [C_ty, ty3, ty4, ty32, ty34, ty130, ty159, K132, C_own, own, C_live, C_keep, keep, live230_10, live230_15, live230_7, hn, hn', hw] <;> (first | omega | (simp_all; done) | skip)
    rw [loop_to C 230 (J := fun k => ⟨[(8, .int .i64 k), (7, .int .i64 n), (6, .ref 960 0 6 6), (5, .ref 640 0 0 0), (0, .arr 2 (l.map Inc.c))], [], [(960, ⟨false, 6, 4, boolRow ((l.take k).foldl pairStep m)⟩), (640, ⟨false, 0, 3, []⟩)]⟩) (n := l.length) (h0 := ?h0) (step := ?step)]
    case h0 => simp (config := { maxSteps := 10000000 }) [C_ty, ty3, ty4, ty32, ty34, ty130, ty159, K132, C_own, own, C_live, C_keep, keep, live230_10, live230_15, live230_7] <;> (first | omega | (simp_all; done) | skip)
    case step =>
      intro k hk
      have hw2 := wrap_nat (i := k) (by omega)
      have hft := foldl_take pairStep m l k hk
      have hfl : ((l.take k).foldl pairStep m).length = 6 := by rw [foldl_len, hrl]
      rw [hft]
      generalize (l.take k).foldl pairStep m = m' at *
      by_cases h1 : inB 0 5 l[k].g = true
      · by_cases h2 : inB 0 5 l[k].l = true
        · have b1 := inB_iff.1 h1
          have b2 := inB_iff.1 h2
          have c1 : l[k].g.toNat < 6 := by omega
          have c2 : l[k].l.toNat < 6 := by omega
          have c3 : l[k].g < 6 := by omega
          have c4 : l[k].l < 6 := by omega
          have hm := marked_at (m := m') (i := l[k].g.toNat) (by omega)
          by_cases h0_ : marked m' l[k].g.toNat = true
          · simp (config := { maxSteps := 10000000 }) [C_ty, ty3, ty4, ty32, ty34, ty130, ty159, K132, C_own, own, C_live, C_keep, keep, live230_10, live230_15, live230_7, hk, hw2, Inc.c, l1In_c, pairStep, boolRow_len, boolRow_at, boolRow_set, h1, h2, b1, b2, c1, c2, c3, c4, hfl, hm, h0_] <;> (first | omega | (simp_all; done) | skip)
          · simp (config := { maxSteps := 10000000 }) [C_ty, ty3, ty4, ty32, ty34, ty130, ty159, K132, C_own, own, C_live, C_keep, keep, live230_10, live230_15, live230_7, hk, hw2, Inc.c, l1In_c, pairStep, boolRow_len, boolRow_at, boolRow_set, h1, h2, b1, b2, c1, c2, c3, c4, hfl, hm, h0_] <;> (first | omega | (simp_all; done) | skip)
        · simp (config := { maxSteps := 10000000 }) [C_ty, ty3, ty4, ty32, ty34, ty130, ty159, K132, C_own, own, C_live, C_keep, keep, live230_10, live230_15, live230_7, hk, hw2, Inc.c, l1In_c, pairStep, boolRow_len, h1, h2] <;> (first | omega | (simp_all; done) | skip)
      · simp (config := { maxSteps := 10000000 }) [C_ty, ty3, ty4, ty32, ty34, ty130, ty159, K132, C_own, own, C_live, C_keep, keep, live230_10, live230_15, live230_7, hk, hw2, Inc.c, l1In_c, pairStep, boolRow_len, h1] <;> (first | omega | (simp_all; done) | skip)
    simp (config := { maxSteps := 10000000 }) [C_ty, ty3, ty4, ty32, ty34, ty130, ty159, K132, C_own, own, C_live, C_keep, keep, live230_10, live230_15, live230_7, hn, hw] <;> (first | omega | (simp_all; done) | skip)
  have hrl : (rounds l 6 (startMarks r)).length = 6 := by rw [rounds_len, hs0]
  have hu : under l r = markedUpto (rounds l 6 (startMarks r)) 6 := by rw [under, if_pos hr, marksUnder]
  rw [hu]
  generalize rounds l 6 (startMarks r) = m at *
  simp (config := { maxSteps := 10000000 }) [C_ty, ty3, ty4, ty32, ty34, ty130, ty159, K132, C_own, own, C_live, C_keep, keep, live230_10, live230_15, live230_7] <;> (first | omega | (simp_all; done) | skip)
  rw [loop_to C 230 (J := fun k => ⟨[(9, .int .i64 k), (6, .ref 960 0 6 6), (5, .ref 640 0 (markedUpto m k).length (markedUpto m k).length)], [], [(960, ⟨false, 6, 4, boolRow m⟩), (640, ⟨false, (markedUpto m k).length, 3, intRow (markedUpto m k)⟩)]⟩) (n := 6) (h0 := ?h0) (step := ?step)]
  case h0 => simp (config := { maxSteps := 10000000 }) [C_ty, ty3, ty4, ty32, ty34, ty130, ty159, K132, C_own, own, C_live, C_keep, keep, live230_10, live230_15, live230_7, markedUpto, intRow] <;> (first | omega | (simp_all; done) | skip)
  case step =>
    intro k hk
    have hw := wrap_nat (i := k) (by omega)
    have hk' : (k : Int) ≤ 5 := by omega
    have hml := markedUpto_len m k
    have hm := marked_at (m := m) (i := k) (by omega)
    have hk6 : (k : Int) < 6 := by omega
    have hsz : ((markedUpto m k).length + 1) * 8 ≤ 140737488355328 := by omega
    have hi : intRow [(k : Int)] = [[.int .i64 (k : Int)]] := rfl
    rw [markedUpto_succ]
    by_cases h0_ : marked m k = true
    · simp (config := { maxSteps := 10000000 }) [C_ty, ty3, ty4, ty32, ty34, ty130, ty159, K132, C_own, own, C_live, C_keep, keep, live230_10, live230_15, live230_7, hk, hk', hk6, hw, boolRow_len, boolRow_at, hrl, hm, hsz, intRow_append, hi, h0_] <;> (first | omega | (simp_all; done) | skip)
    · simp (config := { maxSteps := 10000000 }) [C_ty, ty3, ty4, ty32, ty34, ty130, ty159, K132, C_own, own, C_live, C_keep, keep, live230_10, live230_15, live230_7, hk, hk', hk6, hw, boolRow_len, boolRow_at, hrl, hm, hsz, intRow_append, hi, h0_] <;> (first | omega | (simp_all; done) | skip)
  simp (config := { maxSteps := 10000000 }) [C_ty, ty3, ty4, ty32, ty34, ty130, ty159, K132, C_own, own, C_live, C_keep, keep, live230_10, live230_15, live230_7] <;> (first | omega | (simp_all; done) | skip)
end Go.AI
/- Roles of a person. -/
namespace Go.AI
open Go Go.Proofs
attribute [local congr] bind_left map_left guardOn_congr condOn_congr
attribute [local simp] call_pure start run_seq run_region run_draw arrange run_cond run_block exec_ret exec_exit exec_skip ite_bind ite_map opsW_nil opsW_cons opsW_guard doOp_move doOp_assign doOp_pick doOp_load doOp_nilCheck doOp_fieldAddr doOp_indexAddr doOp_index doOp_slice doOp_binOp doOp_not doOp_neg doOp_convert doOp_extract doOp_build doOp_makeFunc doOp_len doOp_min doOp_max doOp_field doOp_alloc doOp_box doOp_store doOp_buildSlice doOp_makeSlice doOp_append doOp_call cutMk ret tidy sift closed okCell cellsT headOf
set_option maxRecDepth 100000
set_option maxHeartbeats 4000000
set_option linter.unusedSimpArgs false
set_option linter.unusedVariables false
theorem Sort_c (l : List Int) (n : Nat) (hn : n = l.length) (hl : l.length < 4611686018427387904) : call C 227 [.ref 0 0 n n] [] [(0, ⟨false, n, 3, intRow l⟩)] = some ([], [], [(0, ⟨false, n, 3, intRow (sorted l)⟩)]) := by
  rw [call_ext C rfl]
  show sortB (ty 3).sz n n ⟨false, n, 3, intRow l⟩ = _
  unfold sortB
  rw [if_pos ⟨rfl, rfl, rfl, rfl, by show n < _; omega⟩, intsOf_row]
  rfl
theorem Compact_c (l : List Int) (n : Nat) (hn : n = l.length) : call C 228 [.ref 0 0 n n] [] [(0, ⟨false, n, 3, intRow l⟩)] = some ([.ref 0 0 (Lib.compact l).length n], [], [(0, ⟨false, n, 3, intRow (Lib.compact l ++ List.replicate (l.length - (Lib.compact l).length) 0)⟩)]) := by
  rw [call_ext C rfl]
  show compactB (ty 3).sz n n ⟨false, n, 3, intRow l⟩ = _
  unfold compactB
  rw [if_pos ⟨rfl, rfl, rfl, rfl⟩, intsOf_row]
  rfl
theorem l13Has_c (l : List Int) (x : Int) (hl : l.length < 9223372036854775807) : call C 156 [.arr 1 (intRow l), .int .i64 x] [] [] = some ([.bool (l.contains x)], [], []) := by
  rw [call_pure C (f := 156) (fn := Tryz.f156) (C_P ▸ Tryz.func156) rfl rfl]
  simp (config := { maxSteps := 10000000 }) [C_ty, ty3, ty32, C_live, C_keep, keep, live156_2] <;> (first | omega | (simp_all; done) | skip)
  rw [loop_stop C 156 (J := fun i => ⟨[(5, .int .i64 i), (1, .int .i64 x), (0, .arr 1 (intRow l))], [], []⟩) (n := l.length) (p := fun i => decide (l[i]? = some x)) (h0 := ?h0) (step := ?step)]
  case h0 => simp (config := { maxSteps := 10000000 }) [C_ty, ty3, ty32, C_live, C_keep, keep, live156_2] <;> (first | omega | (simp_all; done) | skip)
  case step =>
    intro i hi hp
    have hw := wrap_nat (i := i) (by omega)
    have hne : ¬ (l[i] = x) := by simpa [hi] using hp
    simp (config := { maxSteps := 10000000 }) [C_ty, ty3, ty32, C_live, C_keep, keep, live156_2, hi, hw, hne, intRow] <;> (first | omega | (simp_all; done) | skip)
  generalize hs : stop (fun i => decide (l[i]? = some x)) l.length = i
  have hle := stop_le (fun i => decide (l[i]? = some x)) l.length
  rw [hs] at hle
  by_cases hi : i < l.length
  · have hp := stop_hit (p := fun i => decide (l[i]? = some x)) (n := l.length) (by omega)
    rw [hs] at hp
    have he : l[i] = x := by simpa [hi] using hp
    have hc : x ∈ l := he ▸ List.getElem_mem hi
    simp (config := { maxSteps := 10000000 }) [C_ty, ty3, ty32, C_live, C_keep, keep, live156_2, hi, he, intRow, hc] <;> (first | omega | (simp_all; done) | skip)
  · have hc : ¬ x ∈ l := by
      intro hx
      obtain ⟨j, hj, he⟩ := List.getElem_of_mem hx
      have := stop_before (p := fun i => decide (l[i]? = some x)) (n := l.length) (j := j) (by omega)
      simp [hj, he] at this
    simp (config := { maxSteps := 10000000 }) [C_ty, ty3, ty32, C_live, C_keep, keep, live156_2, hi, intRow, hc] <;> (first | omega | (simp_all; done) | skip)
theorem Contains_c (l : List Int) (x : Int) (hl : l.length < 9223372036854775807) : call C 122 [.arr 1 (intRow l), .int .i64 x] [] [] = some ([.bool (l.contains x)], [], []) := by
  have hc := Index_c l x hl
  have he : l.contains x = decide (0 ≤ placeOf (fun i : Nat => decide (l[i]? = some x)) l.length) := by
    have h1 := place_any l (fun y => decide (y = x))
    have h2 : (fun i : Nat => (l[i]?).any fun y => decide (y = x)) = fun i : Nat => decide (l[i]? = some x) := by
      funext i
      cases l[i]? <;> simp
    rw [h2] at h1
    rw [h1]
    simp only [List.contains_eq_any_beq]
    congr 1
    funext y
    by_cases h : x = y
    · subst h; simp
    · simp [h, Ne.symm h]
  rw [he]
  rw [call_pure C (f := 122) (fn := Tryz.f122) (C_P ▸ Tryz.func122) rfl rfl]
  simp (config := { maxSteps := 10000000 }) [C_ty, ty3, ty32, K182, C_own, own, hc] <;> (first | omega | (simp_all; done) | skip)
def hasRoleFact (p n age : Int) (f : Fa) : Bool := decide (f.k = 1) && decide (f.s = p) && holdsAt f n age
theorem under_mem {l : List Inc} {r x : Int} (h : x ∈ under l r) : 0 ≤ x ∧ x < 6 := by
  unfold under at h
  split at h
  · unfold markedUpto at h
    obtain ⟨i, hi, rfl⟩ := List.mem_map.1 h
    have := List.mem_range.1 (List.mem_filter.1 hi).1
    simp only [Int.ofNat_eq_natCast]
    omega
  · cases h
theorem under_len (l : List Inc) (r : Int) : (under l r).length ≤ 6 := by
  unfold under
  split
  · exact markedUpto_len _ _
  · simp
def setAll (m : List Bool) (l : List Int) : List Bool := l.foldl (fun m x => m.set x.toNat true) m
theorem setAll_len (l : List Int) : ∀ m : List Bool, (setAll m l).length = m.length := by
  induction l with
  | nil => intro m; rfl
  | cons x l ih => intro m; show (setAll (m.set x.toNat true) l).length = _; rw [ih]; simp
def roleStep (l : List Inc) (p n age : Int) (m : List Bool) (f : Fa) : List Bool := if hasRoleFact p n age f then setAll m (under l f.v) else m
theorem roleStep_len (l : List Inc) (p n age : Int) (s : List Fa) : ∀ m : List Bool, (s.foldl (roleStep l p n age) m).length = m.length := by
  induction s with
  | nil => intro m; rfl
  | cons f s ih =>
    intro m
    rw [List.foldl_cons, ih]
    unfold roleStep
    split
    · exact setAll_len _ _
    · rfl
theorem sRolesOf_c (l : List Inc) (s : List Fa) (p n age : Int) (hl : l.length < 9223372036854775807) (hs : s.length < 9223372036854775807) : call C 219 [.arr 2 (l.map Inc.c), .arr 6 (s.map Fa.c), .int .i64 p, .int .i64 n, .int .i64 age] [] [] = some ([.oarr 3 (intRow (markedUpto (s.foldl (roleStep l p n age) (List.replicate 6 false)) 6))], [], []) := by
  have e1 : List.replicate 6 [PV.bool false] = boolRow (List.replicate 6 false) := rfl
  rw [call_pure C (f := 219) (fn := Tryz.f219) (C_P ▸ Tryz.func219) rfl rfl]
  simp (config := { maxSteps := 10000000 }) [C_ty, ty3, ty4, ty32, ty34, ty36, ty130, ty134, ty159, K220, K230, C_own, own, C_live, C_keep, keep, live219_13, live219_3, live219_8, e1, -List.reduceReplicate] <;> (first | omega | (simp_all; done) | skip)
  rw [loop_to C 219 (J := fun i => ⟨[(12, .int .i64 i), (11, .ref 1088 0 6 6), (4, .int .i64 age), (3, .int .i64 n), (2, .int .i64 p), (1, .arr 6 (s.map Fa.c)), (0, .arr 2 (l.map Inc.c))], [], [(1088, ⟨false, 6, 4, boolRow ((s.take i).foldl (roleStep l p n age) (List.replicate 6 false))⟩)]⟩) (n := s.length) (h0 := ?h0) (step := ?step)]
  case h0 => simp (config := { maxSteps := 10000000 }) [C_ty, ty3, ty4, ty32, ty34, ty36, ty130, ty134, ty159, K220, K230, C_own, own, C_live, C_keep, keep, live219_13, live219_3, live219_8, -List.reduceReplicate] <;> (first | omega | (simp_all; done) | skip)
  case step =>
    intro i hi
    have hw := wrap_nat (i := i) (by omega)
    have hft := foldl_take (roleStep l p n age) (List.replicate 6 false) s i hi
    have hml : ((s.take i).foldl (roleStep l p n age) (List.replicate 6 false)).length = 6 := by rw [roleStep_len]; simp
    rw [hft]
    generalize (s.take i).foldl (roleStep l p n age) (List.replicate 6 false) = m at *
    obtain ⟨f, hf⟩ : ∃ f, s[i] = f := ⟨_, rfl⟩
    rw [hf]
    obtain ⟨k', s', v', i', a', u'⟩ := f
    by_cases hF : hasRoleFact p n age ⟨k', s', v', i', a', u'⟩ = false
    · have hr : roleStep l p n age m ⟨k', s', v', i', a', u'⟩ = m := by unfold roleStep; rw [hF]; rfl
      simp only [hasRoleFact] at hF
      by_cases h0_ : k' = 1
      · by_cases h1_ : s' = p
        · by_cases h2_ : holdsAt ⟨1, p, v', i', a', u'⟩ n age = true
          · simp (config := { maxSteps := 10000000 }) [C_ty, ty3, ty4, ty32, ty34, ty36, ty130, ty134, ty159, K220, K230, C_own, own, C_live, C_keep, keep, live219_13, live219_3, live219_8, hi, hw, hf, Fa.c, hr, sHoldsAt_v, h0_, h1_, h2_] <;> (first | omega | (simp_all; done) | skip)
          · simp (config := { maxSteps := 10000000 }) [C_ty, ty3, ty4, ty32, ty34, ty36, ty130, ty134, ty159, K220, K230, C_own, own, C_live, C_keep, keep, live219_13, live219_3, live219_8, hi, hw, hf, Fa.c, hr, sHoldsAt_v, h0_, h1_, h2_] <;> (first | omega | (simp_all; done) | skip)
        · simp (config := { maxSteps := 10000000 }) [C_ty, ty3, ty4, ty32, ty34, ty36, ty130, ty134, ty159, K220, K230, C_own, own, C_live, C_keep, keep, live219_13, live219_3, live219_8, hi, hw, hf, Fa.c, hr, sHoldsAt_v, h0_, h1_] <;> (first | omega | (simp_all; done) | skip)
      · simp (config := { maxSteps := 10000000 }) [C_ty, ty3, ty4, ty32, ty34, ty36, ty130, ty134, ty159, K220, K230, C_own, own, C_live, C_keep, keep, live219_13, live219_3, live219_8, hi, hw, hf, Fa.c, hr, sHoldsAt_v, h0_] <;> (first | omega | (simp_all; done) | skip)
    · have hF : hasRoleFact p n age ⟨k', s', v', i', a', u'⟩ = true := by simpa using hF
      have hr : roleStep l p n age m ⟨k', s', v', i', a', u'⟩ = setAll m (under l v') := by unfold roleStep; rw [hF]; rfl
      have hG := hF
      simp only [hasRoleFact, Bool.and_eq_true, decide_eq_true_eq] at hG
      obtain ⟨⟨rfl, rfl⟩, hH⟩ := hG
      have hu := sRolesUnder_c l v' hl
      have hul := under_len l v'
      have hum : ∀ x ∈ under l v', 0 ≤ x ∧ x < 6 := fun x hx => under_mem hx
      rw [hr]
      generalize under l v' = u at *
      simp (config := { maxSteps := 10000000 }) [C_ty, ty3, ty4, ty32, ty34, ty36, ty130, ty134, ty159, K220, K230, C_own, own, C_live, C_keep, keep, live219_13, live219_3, live219_8, hi, hw, hf, Fa.c, sHoldsAt_v, hH, hu] <;> (first | omega | (simp_all; done) | skip)
      rw [loop_to C 219 (J := fun k => ⟨[(14, .int .i64 k), (13, .arr 1 (intRow u)), (12, .int .i64 i), (11, .ref 1088 0 6 6), (4, .int .i64 age), (3, .int .i64 n), (2, .int .i64 s'), (1, .arr 6 (s.map Fa.c)), (0, .arr 2 (l.map Inc.c))], [], [(1088, ⟨false, 6, 4, boolRow (setAll m (u.take k))⟩)]⟩) (n := u.length) (h0 := ?h0) (step := ?step)]
      case h0 => simp (config := { maxSteps := 10000000 }) [C_ty, ty3, ty4, ty32, ty34, ty36, ty130, ty134, ty159, K220, K230, C_own, own, C_live, C_keep, keep, live219_13, live219_3, live219_8, setAll] <;> (first | omega | (simp_all; done) | skip)
      case step =>
        intro k hk
        have hw2 := wrap_nat (i := k) (by omega)
        have hft2 := foldl_take (fun (m : List Bool) (x : Int) => m.set x.toNat true) m u k hk
        have hft2 : setAll m (u.take (k + 1)) = (setAll m (u.take k)).set u[k].toNat true := hft2
        have hsl : (setAll m (u.take k)).length = 6 := by rw [setAll_len, hml]
        have hx := hum u[k] (List.getElem_mem hk)
        have hx2 : u[k].toNat < 6 := by omega
        simp (config := { maxSteps := 10000000 }) [C_ty, ty3, ty4, ty32, ty34, ty36, ty130, ty134, ty159, K220, K230, C_own, own, C_live, C_keep, keep, live219_13, live219_3, live219_8, hk, hw2, intRow, hft2, boolRow_len, boolRow_at, boolRow_set, hsl, hx, hx2] <;> (first | omega | (simp_all; done) | skip)
      simp (config := { maxSteps := 10000000 }) [C_ty, ty3, ty4, ty32, ty34, ty36, ty130, ty134, ty159, K220, K230, C_own, own, C_live, C_keep, keep, live219_13, live219_3, live219_8, hw, intRow, hH] <;> (first | omega | (simp_all; done) | skip)
  have hml : (s.foldl (roleStep l p n age) (List.replicate 6 false)).length = 6 := by rw [roleStep_len]; simp
  simp (config := { maxSteps := 10000000 }) [C_ty, ty3, ty4, ty32, ty34, ty36, ty130, ty134, ty159, K220, K230, C_own, own, C_live, C_keep, keep, live219_13, live219_3, live219_8, List.take_length, -List.reduceReplicate] <;> (first | omega | (simp_all; done) | skip)
  generalize s.foldl (roleStep l p n age) (List.replicate 6 false) = m at *
  rw [loop_to C 219 (J := fun k => ⟨[(16, .int .i64 k), (15, .ref 4352 0 (markedUpto m k).length (markedUpto m k).length), (11, .ref 1088 0 6 6)], [], [(4352, ⟨false, (markedUpto m k).length, 3, intRow (markedUpto m k)⟩), (1088, ⟨false, 6, 4, boolRow m⟩)]⟩) (n := 6) (h0 := ?h0) (step := ?step)]
  case h0 => simp (config := { maxSteps := 10000000 }) [C_ty, ty3, ty4, ty32, ty34, ty36, ty130, ty134, ty159, K220, K230, C_own, own, C_live, C_keep, keep, live219_13, live219_3, live219_8, markedUpto, intRow] <;> (first | omega | (simp_all; done) | skip)
  case step =>
    intro k hk
    have hw := wrap_nat (i := k) (by omega)
    have hk' : (k : Int) ≤ 5 := by omega
    have hml2 := markedUpto_len m k
    have hm := marked_at (m := m) (i := k) (by omega)
    have hk6 : (k : Int) < 6 := by omega
    have hsz : ((markedUpto m k).length + 1) * 8 ≤ 140737488355328 := by omega
    have hi : intRow [(k : Int)] = [[.int .i64 (k : Int)]] := rfl
    rw [markedUpto_succ]
    by_cases h0_ : marked m k = true
    · simp (config := { maxSteps := 10000000 }) [C_ty, ty3, ty4, ty32, ty34, ty36, ty130, ty134, ty159, K220, K230, C_own, own, C_live, C_keep, keep, live219_13, live219_3, live219_8, hk, hk', hk6, hw, boolRow_len, boolRow_at, hml, hm, hsz, intRow_append, hi, h0_] <;> (first | omega | (simp_all; done) | skip)
    · simp (config := { maxSteps := 10000000 }) [C_ty, ty3, ty4, ty32, ty34, ty36, ty130, ty134, ty159, K220, K230, C_own, own, C_live, C_keep, keep, live219_13, live219_3, live219_8, hk, hk', hk6, hw, boolRow_len, boolRow_at, hml, hm, hsz, intRow_append, hi, h0_] <;> (first | omega | (simp_all; done) | skip)
  simp (config := { maxSteps := 10000000 }) [C_ty, ty3, ty4, ty32, ty34, ty36, ty130, ty134, ty159, K220, K230, C_own, own, C_live, C_keep, keep, live219_13, live219_3, live219_8] <;> (first | omega | (simp_all; done) | skip)
end Go.AI
/- A list that is sorted and compacted: strictly ascending, with the same members; such a list is unique. -/
namespace Go.AI.Sets
open Go.AI
theorem get_mono {l : List Int} (h : l.Pairwise (· ≤ ·)) {i j : Nat} (hij : i ≤ j) (hj : j < l.length) : l[i] ≤ l[j] := by
  rcases Nat.lt_or_eq_of_le hij with hlt | rfl
  · exact List.pairwise_iff_getElem.1 h i j (by omega) hj hlt
  · exact Int.le_refl _
theorem arr_get (l : List Int) {i : Nat} (h : i < l.length) : l.toArray[i]! = l[i] := by simp [h]

theorem compact_mem (l : List Int) (x : Int) : x ∈ Lib.compact l ↔ x ∈ l := by
  unfold Lib.compact Lib.compactUpTo
  simp only [List.mem_map, List.mem_filter, List.mem_range]
  constructor
  · rintro ⟨j, ⟨hj, _⟩, rfl⟩
    rw [arr_get l hj]
    exact List.getElem_mem hj
  · intro hx
    obtain ⟨j, hj, rfl⟩ := List.getElem_of_mem hx
    induction j using Nat.strongRecOn with
    | _ j ih =>
      by_cases hk : Lib.keeps l.toArray j = true
      · exact ⟨j, ⟨hj, hk⟩, arr_get l hj⟩
      · unfold Lib.keeps at hk
        simp only [decide_eq_true_eq, not_or, Classical.not_not] at hk
        rw [arr_get l hj, arr_get l (show j - 1 < l.length by omega)] at hk
        obtain ⟨z, hz, he⟩ := ih (j - 1) (by omega) (by omega) (List.getElem_mem _)
        exact ⟨z, hz, he.trans hk.2.symm⟩

theorem compact_asc {l : List Int} (h : l.Pairwise (· ≤ ·)) : (Lib.compact l).Pairwise (· < ·) := by
  unfold Lib.compact Lib.compactUpTo
  rw [List.pairwise_map]
  have h1 : ((List.range l.length).filter (Lib.keeps l.toArray)).Pairwise (fun i j => i < j ∧ j < l.length ∧ Lib.keeps l.toArray j = true) := by
    have h2 : ((List.range l.length).filter (Lib.keeps l.toArray)).Pairwise (· < ·) := List.Pairwise.filter _ List.pairwise_lt_range
    refine List.Pairwise.imp_of_mem ?_ h2
    intro i j _ hj hij
    rw [List.mem_filter, List.mem_range] at hj
    exact ⟨hij, hj.1, hj.2⟩
  refine h1.imp ?_
  rintro i j ⟨hij, hj, hk⟩
  unfold Lib.keeps at hk
  simp only [decide_eq_true_eq] at hk
  rw [arr_get l hj, arr_get l (show j - 1 < l.length by omega)] at hk
  rw [arr_get l hj, arr_get l (show i < l.length by omega)]
  have h3 := get_mono h (show i ≤ j - 1 by omega) (by omega)
  have h4 := get_mono h (show j - 1 ≤ j by omega) hj
  rcases hk with hk | hk
  · omega
  · omega

theorem sorted_pairwise (l : List Int) : (sorted l).Pairwise (· ≤ ·) := by
  have := List.pairwise_mergeSort (le := fun x y : Int => decide (x ≤ y)) (fun a b c h1 h2 => by simp at *; omega) (fun a b => by simp; omega) l
  exact this.imp (fun h => by simpa using h)
theorem sorted_mem (l : List Int) (x : Int) : x ∈ sorted l ↔ x ∈ l := List.mem_mergeSort

theorem both_mem (l : List Int) (x : Int) : x ∈ Lib.compact (sorted l) ↔ x ∈ l := (compact_mem _ _).trans (sorted_mem l x)
theorem both_asc (l : List Int) : (Lib.compact (sorted l)).Pairwise (· < ·) := compact_asc (sorted_pairwise l)

/-- Two strictly ascending lists of the same members are equal. -/
theorem asc_unique : ∀ (xs ys : List Int), xs.Pairwise (· < ·) → ys.Pairwise (· < ·) → (∀ x, x ∈ xs ↔ x ∈ ys) → xs = ys
  | [], [], _, _, _ => rfl
  | [], y :: ys, _, _, h => by have := (h y).2 List.mem_cons_self; cases this
  | x :: xs, [], _, _, h => by have := (h x).1 List.mem_cons_self; cases this
  | x :: xs, y :: ys, hx, hy, h => by
    rw [List.pairwise_cons] at hx hy
    have e : x = y := by
      rcases List.mem_cons.1 ((h x).1 List.mem_cons_self) with e | hm
      · exact e
      · rcases List.mem_cons.1 ((h y).2 List.mem_cons_self) with e | hm'
        · exact e.symm
        · have := hy.1 x hm
          have := hx.1 y hm'
          omega
    subst e
    congr 1
    refine asc_unique xs ys hx.2 hy.2 fun z => ⟨fun hz => ?_, fun hz => ?_⟩
    · rcases List.mem_cons.1 ((h z).1 (List.mem_cons_of_mem _ hz)) with e | hm
      · have := hx.1 z hz
        omega
      · exact hm
    · rcases List.mem_cons.1 ((h z).2 (List.mem_cons_of_mem _ hz)) with e | hm
      · have := hy.1 z hz
        omega
      · exact hm
/-- What is sorted and compacted is any strictly ascending list with its members. -/
theorem both_eq (l ys : List Int) (hy : ys.Pairwise (· < ·)) (h : ∀ x, x ∈ l ↔ x ∈ ys) : Lib.compact (sorted l) = ys := asc_unique _ _ (both_asc l) hy (fun x => (both_mem l x).trans (h x))
theorem range_asc (j m : Nat) (p : Nat → Bool) : (((List.range' j m).filter p).map Int.ofNat).Pairwise (· < ·) := by
  rw [List.pairwise_map]
  refine List.Pairwise.filter _ ?_
  refine List.Pairwise.imp ?_ (List.pairwise_lt_range' (s := j) (n := m) (step := 1))
  intro a b h
  simpa using h
theorem compact_len (l : List Int) : (Lib.compact l).length ≤ l.length := by
  unfold Lib.compact Lib.compactUpTo
  rw [List.length_map]
  exact Nat.le_trans (List.length_filter_le _ _) (by simp)
theorem sorted_len (l : List Int) : (sorted l).length = l.length := List.length_mergeSort l
end Go.AI.Sets
