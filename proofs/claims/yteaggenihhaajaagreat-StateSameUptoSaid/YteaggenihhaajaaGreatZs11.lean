/- Lemmas and contracts, part 11. -/
import Derived.Test.YteaggenihhaajaaGreatZs10
import Derived.Test.YteaggenihhaajaaGreatProg
/- The program's types, as far as a walk asks: a search tree. -/
namespace Go.Proofs.YteaggenihhaajaaGreat
def tyTab : TT := (.node (.node (.node (.node (.node (.node (.node (.node (.node .nil 1 ⟨1, 8, [.nilf], .other⟩ .nil) 2 ⟨1, 8, [.int .i64 0], .int .i64⟩ .nil) 3 ⟨1, 8, [.int .i64 0], .int .i64⟩ (.node (.node .nil 4 ⟨1, 1, [.bool false], .bool⟩ .nil) 5 ⟨1, 1, [.int .u8 0], .int .u8⟩ .nil)) 6 ⟨1, 1, [.int .u8 0], .int .u8⟩ (.node (.node (.node .nil 7 ⟨4, 24, [.int .i64 0, .int .i64 0, .bool false, .int .u8 0], .struct [(0, 2), (1, 3), (2, 4), (3, 6)]⟩ .nil) 8 ⟨4, 24, [.int .i64 0, .int .i64 0, .bool false, .int .u8 0], .struct [(0, 2), (1, 3), (2, 4), (3, 6)]⟩ .nil) 9 ⟨1, 16, [.str []], .str⟩ (.node (.node .nil 10 ⟨1, 16, [.str []], .str⟩ .nil) 11 ⟨1, 16, [.str []], .str⟩ .nil))) 12 ⟨1, 8, [.int .u64 0], .int .u64⟩ (.node (.node (.node (.node .nil 15 ⟨1, 8, [.nilp], .ptr⟩ .nil) 16 ⟨1, 8, [.nilp], .ptr⟩ .nil) 17 ⟨1, 8, [.nilp], .ptr⟩ (.node (.node .nil 21 ⟨1, 4, [.int .i32 0], .int .i32⟩ .nil) 22 ⟨1, 8, [.int .i64 0], .int .i64⟩ .nil)) 23 ⟨5, 40, [.int .i64 0, .int .i64 0, .int .i64 0, .int .i64 0, .int .i64 0], .struct [(0, 2), (1, 22), (2, 22), (3, 22), (4, 22)]⟩ (.node (.node (.node .nil 24 ⟨5, 40, [.int .i64 0, .int .i64 0, .int .i64 0, .int .i64 0, .int .i64 0], .struct [(0, 2), (1, 22), (2, 22), (3, 22), (4, 22)]⟩ .nil) 25 ⟨1, 24, [.nils], .slice 68⟩ .nil) 26 ⟨1, 24, [.nils], .slice 5⟩ (.node (.node .nil 27 ⟨1, 24, [.nils], .slice 59⟩ .nil) 28 ⟨3, 40, [.int .i64 0, .int .i64 0, .nils], .struct [(0, 2), (1, 22), (2, 27)]⟩ .nil)))) 29 ⟨3, 40, [.int .i64 0, .int .i64 0, .nils], .struct [(0, 2), (1, 22), (2, 27)]⟩ (.node (.node (.node (.node (.node .nil 30 ⟨1, 24, [.nils], .slice 86⟩ .nil) 31 ⟨1, 24, [.nils], .slice 29⟩ .nil) 32 ⟨5, 88, [.int .i64 0, .int .i64 0, .nils, .nils, .nils], .struct [(0, 29), (3, 30), (4, 31)]⟩ (.node (.node .nil 33 ⟨5, 88, [.int .i64 0, .int .i64 0, .nils, .nils, .nils], .struct [(0, 29), (3, 30), (4, 31)]⟩ .nil) 34 ⟨1, 24, [.nils], .slice 73⟩ .nil)) 35 ⟨1, 24, [.nils], .slice 63⟩ (.node (.node (.node .nil 36 ⟨1, 24, [.nils], .slice 75⟩ .nil) 37 ⟨1, 24, [.nils], .slice 77⟩ .nil) 38 ⟨1, 24, [.nils], .slice 84⟩ (.node (.node .nil 39 ⟨1, 24, [.nils], .struct [(0, 38)]⟩ .nil) 40 ⟨1, 24, [.nils], .struct [(0, 38)]⟩ .nil))) 41 ⟨2, 16, [.int .i64 0, .int .i64 0], .struct [(0, 3), (1, 3)]⟩ (.node (.node (.node (.node .nil 42 ⟨2, 16, [.int .i64 0, .int .i64 0], .struct [(0, 3), (1, 3)]⟩ .nil) 43 ⟨1, 24, [.nils], .slice 122⟩ .nil) 44 ⟨26, 400, [.int .i64 0, .bool false, .int .i64 0, .int .i64 0, .int .i64 0, .int .i64 0, .int .i64 0, .int .i64 0, .int .i64 0, .nils, .nils, .int .i64 0, .int .i64 0, .nils, .nils, .nils, .nils, .nils, .nils, .nils, .nils, .nils, .int .i64 0, .int .i64 0, .nils, .int .i64 0], .struct [(0, 2), (1, 4), (2, 2), (3, 2), (4, 24), (9, 25), (10, 26), (11, 33), (16, 31), (17, 34), (18, 35), (19, 36), (20, 37), (21, 40), (22, 42), (24, 43), (25, 2)]⟩ (.node (.node .nil 45 ⟨26, 400, [.int .i64 0, .bool false, .int .i64 0, .int .i64 0, .int .i64 0, .int .i64 0, .int .i64 0, .int .i64 0, .int .i64 0, .nils, .nils, .int .i64 0, .int .i64 0, .nils, .nils, .nils, .nils, .nils, .nils, .nils, .nils, .nils, .int .i64 0, .int .i64 0, .nils, .int .i64 0], .struct [(0, 2), (1, 4), (2, 2), (3, 2), (4, 24), (9, 25), (10, 26), (11, 33), (16, 31), (17, 34), (18, 35), (19, 36), (20, 37), (21, 40), (22, 42), (24, 43), (25, 2)]⟩ .nil) 46 ⟨1, 8, [.nilf], .other⟩ .nil)) 47 ⟨1, 8, [.int .i64 0], .int .i64⟩ (.node (.node (.node .nil 49 ⟨1, 8, [.nilf], .other⟩ .nil) 51 ⟨1, 8, [.nilf], .other⟩ .nil) 52 ⟨1, 8, [.nilf], .other⟩ (.node .nil 53 ⟨1, 8, [.nilf], .other⟩ .nil))))) 54 ⟨1, 8, [.nilf], .other⟩ (.node (.node (.node (.node (.node (.node .nil 55 ⟨1, 8, [.nilf], .other⟩ .nil) 56 ⟨1, 8, [.nilf], .other⟩ .nil) 57 ⟨1, 8, [.nilf], .other⟩ (.node (.node .nil 58 ⟨2, 16, [.int .i64 0, .int .i64 0], .struct [(0, 3), (1, 22)]⟩ .nil) 59 ⟨2, 16, [.int .i64 0, .int .i64 0], .struct [(0, 3), (1, 22)]⟩ .nil)) 60 ⟨1, 24, [.nils], .slice 84⟩ (.node (.node (.node .nil 61 ⟨1, 24, [.nils], .slice 65⟩ .nil) 62 ⟨8, 112, [.int .i64 0, .bool false, .int .i64 0, .int .i64 0, .int .i64 0, .nils, .nils, .nils], .struct [(0, 2), (1, 4), (2, 22), (3, 59), (5, 60), (6, 61), (7, 61)]⟩ .nil) 63 ⟨8, 112, [.int .i64 0, .bool false, .int .i64 0, .int .i64 0, .int .i64 0, .nils, .nils, .nils], .struct [(0, 2), (1, 4), (2, 22), (3, 59), (5, 60), (6, 61), (7, 61)]⟩ (.node (.node .nil 64 ⟨3, 24, [.int .i64 0, .int .i64 0, .int .i64 0], .struct [(0, 22), (1, 59)]⟩ .nil) 65 ⟨3, 24, [.int .i64 0, .int .i64 0, .int .i64 0], .struct [(0, 22), (1, 59)]⟩ .nil))) 66 ⟨1, 24, [.nils], .slice 71⟩ (.node (.node (.node (.node .nil 67 ⟨7, 88, [.int .i64 0, .int .i64 0, .int .i64 0, .int .i64 0, .int .i64 0, .nils, .nils], .struct [(0, 24), (5, 60), (6, 66)]⟩ .nil) 68 ⟨7, 88, [.int .i64 0, .int .i64 0, .int .i64 0, .int .i64 0, .int .i64 0, .nils, .nils], .struct [(0, 24), (5, 60), (6, 66)]⟩ .nil) 69 ⟨1, 24, [.nils], .slice 5⟩ (.node (.node .nil 70 ⟨3, 48, [.str [], .int .i64 0, .nils], .struct [(0, 9), (1, 2), (2, 69)]⟩ .nil) 71 ⟨3, 48, [.str [], .int .i64 0, .nils], .struct [(0, 9), (1, 2), (2, 69)]⟩ .nil)) 72 ⟨6, 64, [.int .i64 0, .int .i64 0, .int .i64 0, .int .i64 0, .int .i64 0, .nils], .struct [(0, 24), (5, 26)]⟩ (.node (.node (.node .nil 73 ⟨6, 64, [.int .i64 0, .int .i64 0, .int .i64 0, .int .i64 0, .int .i64 0, .nils], .struct [(0, 24), (5, 26)]⟩ .nil) 74 ⟨7, 88, [.int .i64 0, .int .i64 0, .int .i64 0, .int .i64 0, .int .i64 0, .nils, .nils], .struct [(0, 2), (1, 2), (2, 22), (3, 59), (5, 27), (6, 60)]⟩ .nil) 75 ⟨7, 88, [.int .i64 0, .int .i64 0, .int .i64 0, .int .i64 0, .int .i64 0, .nils, .nils], .struct [(0, 2), (1, 2), (2, 22), (3, 59), (5, 27), (6, 60)]⟩ (.node (.node .nil 76 ⟨8, 96, [.int .i64 0, .int .i64 0, .int .i64 0, .int .i64 0, .nils, .nils, .int .i64 0, .int .i64 0], .struct [(0, 2), (1, 3), (2, 29), (5, 36), (6, 59)]⟩ .nil) 77 ⟨8, 96, [.int .i64 0, .int .i64 0, .int .i64 0, .int .i64 0, .nils, .nils, .int .i64 0, .int .i64 0], .struct [(0, 2), (1, 3), (2, 29), (5, 36), (6, 59)]⟩ .nil)))) 78 ⟨1, 24, [.nils], .slice 69⟩ (.node (.node (.node (.node (.node .nil 79 ⟨5, 72, [.int .i64 0, .str [], .str [], .int .i64 0, .nils], .struct [(0, 3), (1, 9), (2, 9), (3, 2), (4, 78)]⟩ .nil) 80 ⟨5, 72, [.int .i64 0, .str [], .str [], .int .i64 0, .nils], .struct [(0, 3), (1, 9), (2, 9), (3, 2), (4, 78)]⟩ .nil) 81 ⟨7, 88, [.int .i64 0, .int .i64 0, .int .i64 0, .str [], .str [], .int .i64 0, .nils], .struct [(0, 3), (1, 2), (2, 80)]⟩ (.node (.node .nil 82 ⟨7, 88, [.int .i64 0, .int .i64 0, .int .i64 0, .str [], .str [], .int .i64 0, .nils], .struct [(0, 3), (1, 2), (2, 80)]⟩ .nil) 83 ⟨9, 104, [.int .i64 0, .int .i64 0, .int .i64 0, .str [], .str [], .int .i64 0, .nils, .int .i64 0, .int .i64 0], .struct [(0, 82), (7, 59)]⟩ .nil)) 84 ⟨9, 104, [.int .i64 0, .int .i64 0, .int .i64 0, .str [], .str [], .int .i64 0, .nils, .int .i64 0, .int .i64 0], .struct [(0, 82), (7, 59)]⟩ (.node (.node (.node .nil 85 ⟨4, 32, [.int .i64 0, .int .i64 0, .int .i64 0, .int .i64 0], .struct [(0, 2), (1, 22), (2, 59)]⟩ .nil) 86 ⟨4, 32, [.int .i64 0, .int .i64 0, .int .i64 0, .int .i64 0], .struct [(0, 2), (1, 22), (2, 59)]⟩ .nil) 87 ⟨1, 8, [.nilp], .ptr⟩ (.node (.node .nil 88 ⟨2, 32, [.nils, .bool false], .struct [(0, 26), (1, 4)]⟩ .nil) 89 ⟨2, 32, [.nils, .bool false], .struct [(0, 26), (1, 4)]⟩ .nil))) 90 ⟨1, 8, [.nilf], .other⟩ (.node (.node (.node (.node .nil 91 ⟨1, 8, [.nilp], .ptr⟩ .nil) 92 ⟨1, 8, [.nilf], .other⟩ .nil) 93 ⟨1, 8, [.nilp], .struct [(0, 91)]⟩ (.node (.node .nil 94 ⟨1, 8, [.nilp], .struct [(0, 91)]⟩ .nil) 95 ⟨1, 8, [.nilf], .other⟩ .nil)) 96 ⟨1, 8, [.nilf], .other⟩ (.node (.node (.node .nil 97 ⟨1, 8, [.nilf], .other⟩ .nil) 98 ⟨1, 8, [.nilf], .other⟩ .nil) 99 ⟨1, 8, [.nilf], .other⟩ (.node .nil 100 ⟨1, 8, [.nilf], .other⟩ .nil)))))) 101 ⟨1, 8, [.nilf], .other⟩ (.node (.node (.node (.node (.node (.node (.node .nil 102 ⟨1, 8, [.nilf], .other⟩ .nil) 103 ⟨1, 8, [.nilp], .ptr⟩ .nil) 104 ⟨2, 32, [.nils, .bool false], .struct [(0, 26), (1, 4)]⟩ (.node (.node .nil 105 ⟨2, 32, [.nils, .bool false], .struct [(0, 26), (1, 4)]⟩ .nil) 106 ⟨1, 8, [.nilf], .other⟩ .nil)) 107 ⟨1, 8, [.nilf], .other⟩ (.node (.node (.node .nil 108 ⟨1, 8, [.nilf], .other⟩ .nil) 109 ⟨1, 8, [.nilf], .other⟩ .nil) 110 ⟨1, 8, [.nilf], .other⟩ (.node (.node .nil 111 ⟨1, 8, [.nilf], .other⟩ .nil) 112 ⟨1, 8, [.nilf], .other⟩ .nil))) 113 ⟨1, 8, [.nilf], .other⟩ (.node (.node (.node (.node .nil 114 ⟨2, 16, [.int .i64 0, .int .i64 0], .struct [(0, 47), (1, 2)]⟩ .nil) 115 ⟨2, 16, [.int .i64 0, .int .i64 0], .struct [(0, 47), (1, 2)]⟩ .nil) 116 ⟨1, 24, [.nils], .slice 225⟩ (.node (.node .nil 117 ⟨1, 24, [.nils], .slice 24⟩ .nil) 118 ⟨1, 24, [.nils], .slice 22⟩ .nil)) 119 ⟨10, 152, [.str [], .int .i64 0, .nils, .nils, .int .i64 0, .int .i64 0, .nils, .int .i64 0, .int .i64 0, .nils], .struct [(0, 9), (1, 2), (2, 69), (3, 117), (4, 3), (5, 3), (6, 118), (7, 29)]⟩ (.node (.node (.node .nil 120 ⟨10, 152, [.str [], .int .i64 0, .nils, .nils, .int .i64 0, .int .i64 0, .nils, .int .i64 0, .int .i64 0, .nils], .struct [(0, 9), (1, 2), (2, 69), (3, 117), (4, 3), (5, 3), (6, 118), (7, 29)]⟩ .nil) 121 ⟨30, 400, [.int .i64 0, .int .i64 0, .int .i64 0, .int .i64 0, .int .i64 0, .int .i64 0, .int .i64 0, .int .i64 0, .int .i64 0, .nils, .int .i64 0, .int .i64 0, .nils, .nils, .nils, .nils, .str [], .int .i64 0, .str [], .int .i64 0, .nils, .nils, .int .i64 0, .int .i64 0, .nils, .int .i64 0, .int .i64 0, .nils, .int .i64 0, .int .i64 0], .struct [(0, 3), (1, 3), (2, 2), (3, 2), (4, 22), (5, 3), (6, 2), (7, 115), (9, 60), (10, 29), (13, 37), (14, 116), (15, 26), (16, 9), (17, 2), (18, 120), (28, 59)]⟩ .nil) 122 ⟨30, 400, [.int .i64 0, .int .i64 0, .int .i64 0, .int .i64 0, .int .i64 0, .int .i64 0, .int .i64 0, .int .i64 0, .int .i64 0, .nils, .int .i64 0, .int .i64 0, .nils, .nils, .nils, .nils, .str [], .int .i64 0, .str [], .int .i64 0, .nils, .nils, .int .i64 0, .int .i64 0, .nils, .int .i64 0, .int .i64 0, .nils, .int .i64 0, .int .i64 0], .struct [(0, 3), (1, 3), (2, 2), (3, 2), (4, 22), (5, 3), (6, 2), (7, 115), (9, 60), (10, 29), (13, 37), (14, 116), (15, 26), (16, 9), (17, 2), (18, 120), (28, 59)]⟩ (.node (.node .nil 123 ⟨1, 8, [.nilf], .other⟩ .nil) 124 ⟨1, 8, [.nilf], .other⟩ .nil)))) 125 ⟨1, 8, [.nilf], .other⟩ (.node (.node (.node (.node (.node .nil 126 ⟨1, 8, [.nilf], .other⟩ .nil) 127 ⟨1, 8, [.nilf], .other⟩ .nil) 128 ⟨1, 8, [.nilf], .other⟩ (.node (.node .nil 129 ⟨1, 8, [.nilf], .other⟩ .nil) 130 ⟨1, 8, [.nilf], .other⟩ .nil)) 131 ⟨1, 8, [.nilf], .other⟩ (.node (.node (.node .nil 132 ⟨1, 8, [.nilf], .other⟩ .nil) 133 ⟨1, 8, [.nilf], .other⟩ .nil) 134 ⟨1, 8, [.nilf], .other⟩ (.node (.node .nil 135 ⟨1, 8, [.nilf], .other⟩ .nil) 136 ⟨1, 8, [.nilf], .other⟩ .nil))) 137 ⟨1, 8, [.nilf], .other⟩ (.node (.node (.node (.node .nil 138 ⟨1, 8, [.nilf], .other⟩ .nil) 139 ⟨1, 8, [.nilf], .other⟩ .nil) 140 ⟨1, 8, [.nilf], .other⟩ (.node (.node .nil 141 ⟨1, 8, [.nilf], .other⟩ .nil) 142 ⟨1, 8, [.nilf], .other⟩ .nil)) 143 ⟨1, 8, [.nilf], .other⟩ (.node (.node (.node .nil 144 ⟨1, 8, [.nilf], .other⟩ .nil) 145 ⟨1, 8, [.nilf], .other⟩ .nil) 146 ⟨1, 8, [.nilf], .other⟩ (.node .nil 147 ⟨1, 8, [.nilf], .other⟩ .nil))))) 148 ⟨1, 8, [.nilf], .other⟩ (.node (.node (.node (.node (.node (.node .nil 149 ⟨1, 8, [.nilf], .other⟩ .nil) 150 ⟨1, 8, [.nilf], .other⟩ .nil) 151 ⟨1, 8, [.nilf], .other⟩ (.node (.node .nil 152 ⟨1, 8, [.nilf], .other⟩ .nil) 153 ⟨1, 8, [.nilf], .other⟩ .nil)) 154 ⟨1, 8, [.nilf], .other⟩ (.node (.node (.node .nil 155 ⟨1, 8, [.nilf], .other⟩ .nil) 156 ⟨1, 8, [.nilf], .other⟩ .nil) 157 ⟨1, 8, [.nilf], .other⟩ (.node (.node .nil 158 ⟨1, 8, [.nilf], .other⟩ .nil) 159 ⟨1, 8, [.nilf], .other⟩ .nil))) 160 ⟨1, 8, [.nilf], .other⟩ (.node (.node (.node (.node .nil 161 ⟨1, 8, [.nilf], .other⟩ .nil) 162 ⟨1, 8, [.nilf], .other⟩ .nil) 163 ⟨3, 40, [.nils, .int .i64 0, .bool false], .struct [(0, 26), (1, 47), (2, 4)]⟩ (.node (.node .nil 164 ⟨3, 40, [.nils, .int .i64 0, .bool false], .struct [(0, 26), (1, 47), (2, 4)]⟩ .nil) 165 ⟨1, 8, [.nilf], .other⟩ .nil)) 166 ⟨1, 8, [.nilf], .other⟩ (.node (.node (.node .nil 167 ⟨1, 8, [.nilf], .other⟩ .nil) 168 ⟨1, 8, [.nilf], .other⟩ .nil) 169 ⟨1, 8, [.nilf], .other⟩ (.node (.node .nil 170 ⟨1, 8, [.nilf], .other⟩ .nil) 171 ⟨1, 8, [.nilf], .other⟩ .nil)))) 172 ⟨1, 8, [.nilf], .other⟩ (.node (.node (.node (.node (.node .nil 173 ⟨1, 8, [.nilf], .other⟩ .nil) 174 ⟨1, 8, [.nilf], .other⟩ .nil) 175 ⟨1, 8, [.nilf], .other⟩ (.node (.node .nil 176 ⟨1, 8, [.nilf], .other⟩ .nil) 177 ⟨1, 8, [.nilf], .other⟩ .nil)) 178 ⟨1, 8, [.nilf], .other⟩ (.node (.node (.node .nil 179 ⟨1, 8, [.nilf], .other⟩ .nil) 180 ⟨1, 8, [.nilf], .other⟩ .nil) 181 ⟨1, 8, [.nilf], .other⟩ (.node (.node .nil 182 ⟨1, 8, [.nilf], .other⟩ .nil) 183 ⟨1, 8, [.nilf], .other⟩ .nil))) 184 ⟨1, 8, [.nilf], .other⟩ (.node (.node (.node (.node .nil 185 ⟨1, 8, [.nilf], .other⟩ .nil) 186 ⟨1, 8, [.nilf], .other⟩ .nil) 187 ⟨1, 8, [.nilf], .other⟩ (.node (.node .nil 188 ⟨1, 8, [.nilf], .other⟩ .nil) 189 ⟨1, 8, [.nilf], .other⟩ .nil)) 190 ⟨1, 8, [.nilf], .other⟩ (.node (.node (.node .nil 191 ⟨1, 8, [.nilf], .other⟩ .nil) 192 ⟨1, 8, [.nilf], .other⟩ .nil) 193 ⟨1, 8, [.nilf], .other⟩ (.node .nil 194 ⟨1, 8, [.nilf], .other⟩ .nil))))))) 195 ⟨1, 8, [.nilf], .other⟩ (.node (.node (.node (.node (.node (.node (.node (.node .nil 196 ⟨1, 8, [.nilf], .other⟩ .nil) 197 ⟨1, 8, [.nilf], .other⟩ .nil) 198 ⟨1, 8, [.nilf], .other⟩ (.node (.node .nil 199 ⟨1, 8, [.nilf], .other⟩ .nil) 200 ⟨1, 8, [.nilf], .other⟩ .nil)) 201 ⟨1, 8, [.nilf], .other⟩ (.node (.node (.node .nil 202 ⟨1, 8, [.nilf], .other⟩ .nil) 203 ⟨1, 8, [.nilf], .other⟩ .nil) 204 ⟨1, 8, [.nilf], .other⟩ (.node (.node .nil 205 ⟨1, 8, [.nilf], .other⟩ .nil) 206 ⟨1, 8, [.nilf], .other⟩ .nil))) 207 ⟨1, 8, [.nilf], .other⟩ (.node (.node (.node (.node .nil 208 ⟨1, 8, [.nilf], .other⟩ .nil) 209 ⟨1, 8, [.nilf], .other⟩ .nil) 210 ⟨1, 8, [.nilf], .other⟩ (.node (.node .nil 211 ⟨1, 8, [.nilf], .other⟩ .nil) 212 ⟨1, 8, [.nilf], .other⟩ .nil)) 213 ⟨1, 8, [.nilf], .other⟩ (.node (.node (.node .nil 214 ⟨1, 8, [.nilf], .other⟩ .nil) 215 ⟨1, 8, [.nilf], .other⟩ .nil) 216 ⟨1, 8, [.nilf], .other⟩ (.node (.node .nil 217 ⟨1, 8, [.nilf], .other⟩ .nil) 218 ⟨1, 8, [.nilf], .other⟩ .nil)))) 219 ⟨13, 112, [.int .i64 0, .int .i64 0, .int .i64 0, .int .i64 0, .int .i64 0, .int .i64 0, .int .i64 0, .int .i64 0, .int .i64 0, .int .i64 0, .str [], .int .i64 0, .int .i64 0], .struct [(0, 3), (1, 3), (2, 3), (3, 2), (4, 2), (5, 2), (6, 2), (7, 22), (8, 115), (10, 9), (11, 59)]⟩ (.node (.node (.node (.node (.node .nil 220 ⟨13, 112, [.int .i64 0, .int .i64 0, .int .i64 0, .int .i64 0, .int .i64 0, .int .i64 0, .int .i64 0, .int .i64 0, .int .i64 0, .int .i64 0, .str [], .int .i64 0, .int .i64 0], .struct [(0, 3), (1, 3), (2, 3), (3, 2), (4, 2), (5, 2), (6, 2), (7, 22), (8, 115), (10, 9), (11, 59)]⟩ .nil) 221 ⟨1, 8, [.nilf], .other⟩ .nil) 222 ⟨1, 8, [.nilf], .other⟩ (.node (.node .nil 223 ⟨1, 8, [.nilf], .other⟩ .nil) 224 ⟨5, 56, [.int .i64 0, .int .i64 0, .nils, .int .i64 0, .int .i64 0], .struct [(0, 2), (1, 2), (2, 60), (3, 59)]⟩ .nil)) 225 ⟨5, 56, [.int .i64 0, .int .i64 0, .nils, .int .i64 0, .int .i64 0], .struct [(0, 2), (1, 2), (2, 60), (3, 59)]⟩ (.node (.node (.node .nil 226 ⟨1, 8, [.nilf], .other⟩ .nil) 227 ⟨1, 8, [.nilf], .other⟩ .nil) 228 ⟨1, 8, [.nilf], .other⟩ (.node (.node .nil 229 ⟨1, 8, [.nilf], .other⟩ .nil) 230 ⟨1, 8, [.nilf], .other⟩ .nil))) 231 ⟨1, 8, [.nilf], .other⟩ (.node (.node (.node (.node .nil 232 ⟨1, 8, [.nilf], .other⟩ .nil) 233 ⟨1, 8, [.nilf], .other⟩ .nil) 234 ⟨1, 8, [.nilf], .other⟩ (.node (.node .nil 235 ⟨1, 8, [.nilf], .other⟩ .nil) 236 ⟨1, 24, [.nils], .slice 2⟩ .nil)) 237 ⟨1, 8, [.nilf], .other⟩ (.node (.node (.node .nil 238 ⟨1, 8, [.int .u64 0], .int .u64⟩ .nil) 239 ⟨1, 8, [.nilf], .other⟩ .nil) 240 ⟨1, 8, [.nilf], .other⟩ (.node .nil 241 ⟨1, 8, [.nilf], .other⟩ .nil))))) 242 ⟨1, 8, [.nilf], .other⟩ (.node (.node (.node (.node (.node (.node .nil 243 ⟨1, 8, [.nilf], .other⟩ .nil) 244 ⟨1, 8, [.nilf], .other⟩ .nil) 245 ⟨1, 8, [.nilf], .other⟩ (.node (.node .nil 246 ⟨1, 8, [.nilf], .other⟩ .nil) 247 ⟨1, 8, [.nilf], .other⟩ .nil)) 248 ⟨1, 8, [.nilf], .other⟩ (.node (.node (.node .nil 249 ⟨1, 8, [.nilf], .other⟩ .nil) 250 ⟨1, 8, [.nilf], .other⟩ .nil) 251 ⟨1, 8, [.nilf], .other⟩ (.node (.node .nil 252 ⟨1, 8, [.nilf], .other⟩ .nil) 253 ⟨1, 8, [.nilf], .other⟩ .nil))) 254 ⟨1, 8, [.nilf], .other⟩ (.node (.node (.node (.node .nil 255 ⟨1, 8, [.nilf], .other⟩ .nil) 256 ⟨1, 8, [.nilf], .other⟩ .nil) 257 ⟨1, 8, [.nilf], .other⟩ (.node (.node .nil 258 ⟨1, 8, [.nilf], .other⟩ .nil) 259 ⟨1, 8, [.nilf], .other⟩ .nil)) 260 ⟨1, 8, [.nilf], .other⟩ (.node (.node (.node .nil 261 ⟨1, 8, [.nilf], .other⟩ .nil) 262 ⟨1, 8, [.nilf], .other⟩ .nil) 263 ⟨1, 8, [.nilf], .other⟩ (.node (.node .nil 264 ⟨1, 8, [.nilf], .other⟩ .nil) 265 ⟨1, 8, [.nilf], .other⟩ .nil)))) 266 ⟨1, 8, [.nilf], .other⟩ (.node (.node (.node (.node (.node .nil 267 ⟨1, 8, [.nilf], .other⟩ .nil) 268 ⟨1, 8, [.nilf], .other⟩ .nil) 269 ⟨1, 8, [.nilf], .other⟩ (.node (.node .nil 270 ⟨1, 8, [.nilf], .other⟩ .nil) 271 ⟨1, 8, [.nilf], .other⟩ .nil)) 272 ⟨1, 8, [.nilf], .other⟩ (.node (.node (.node .nil 273 ⟨1, 8, [.nilf], .other⟩ .nil) 274 ⟨1, 8, [.nilf], .other⟩ .nil) 275 ⟨1, 8, [.nilf], .other⟩ (.node (.node .nil 276 ⟨1, 8, [.nilf], .other⟩ .nil) 277 ⟨1, 8, [.nilf], .other⟩ .nil))) 278 ⟨1, 8, [.nilf], .other⟩ (.node (.node (.node (.node .nil 280 ⟨1, 8, [.nilf], .other⟩ .nil) 281 ⟨1, 8, [.nilf], .other⟩ .nil) 282 ⟨1, 8, [.nilf], .other⟩ (.node (.node .nil 283 ⟨1, 8, [.nilf], .other⟩ .nil) 284 ⟨1, 8, [.nilf], .other⟩ .nil)) 285 ⟨1, 8, [.nilf], .other⟩ (.node (.node (.node .nil 286 ⟨1, 8, [.nilf], .other⟩ .nil) 287 ⟨1, 8, [.nilf], .other⟩ .nil) 290 ⟨1, 8, [.nilf], .other⟩ (.node .nil 291 ⟨1, 8, [.nilf], .other⟩ .nil)))))) 292 ⟨1, 8, [.nilf], .other⟩ (.node (.node (.node (.node (.node (.node (.node .nil 293 ⟨1, 8, [.nilp], .ptr⟩ .nil) 294 ⟨1, 24, [.nils], .struct [(0, 26)]⟩ .nil) 295 ⟨1, 24, [.nils], .struct [(0, 26)]⟩ (.node (.node .nil 296 ⟨1, 24, [.nils], .struct [(0, 295)]⟩ .nil) 297 ⟨1, 24, [.nils], .struct [(0, 295)]⟩ .nil)) 298 ⟨1, 8, [.nilf], .other⟩ (.node (.node (.node .nil 299 ⟨1, 8, [.nilf], .other⟩ .nil) 300 ⟨1, 8, [.nilf], .other⟩ .nil) 302 ⟨1, 8, [.nilf], .other⟩ (.node (.node .nil 304 ⟨1, 8, [.nilf], .other⟩ .nil) 305 ⟨1, 8, [.nilf], .other⟩ .nil))) 306 ⟨1, 8, [.nilp], .struct [(0, 91)]⟩ (.node (.node (.node (.node .nil 307 ⟨1, 8, [.nilf], .other⟩ .nil) 309 ⟨1, 8, [.nilf], .other⟩ .nil) 310 ⟨1, 8, [.nilf], .other⟩ (.node (.node .nil 312 ⟨1, 8, [.nilf], .other⟩ .nil) 313 ⟨1, 8, [.nilf], .other⟩ .nil)) 314 ⟨1, 8, [.nilf], .other⟩ (.node (.node (.node .nil 315 ⟨1, 8, [.nilf], .other⟩ .nil) 316 ⟨1, 8, [.nilf], .other⟩ .nil) 317 ⟨1, 8, [.nilf], .other⟩ (.node (.node .nil 318 ⟨1, 8, [.nilf], .other⟩ .nil) 319 ⟨1, 8, [.nilf], .other⟩ .nil)))) 320 ⟨1, 8, [.nilf], .other⟩ (.node (.node (.node (.node (.node .nil 321 ⟨1, 8, [.int .u64 0], .int .u64⟩ .nil) 322 ⟨1, 24, [.nils], .slice 84⟩ .nil) 323 ⟨1, 8, [.int .i64 0], .struct [(0, 47)]⟩ (.node (.node .nil 324 ⟨1, 8, [.int .i64 0], .struct [(0, 47)]⟩ .nil) 325 ⟨1, 8, [.nilf], .other⟩ .nil)) 326 ⟨1, 8, [.nilf], .other⟩ (.node (.node (.node .nil 327 ⟨1, 8, [.nilf], .other⟩ .nil) 328 ⟨1, 24, [.nils], .slice 3⟩ .nil) 330 ⟨1, 8, [.nilf], .other⟩ (.node (.node .nil 331 ⟨1, 8, [.nilf], .other⟩ .nil) 332 ⟨1, 8, [.nilf], .other⟩ .nil))) 333 ⟨1, 8, [.nilf], .other⟩ (.node (.node (.node (.node .nil 334 ⟨1, 8, [.nilf], .other⟩ .nil) 335 ⟨1, 8, [.nilf], .other⟩ .nil) 336 ⟨1, 8, [.nilf], .other⟩ (.node (.node .nil 337 ⟨1, 8, [.nilf], .other⟩ .nil) 338 ⟨1, 8, [.nilf], .other⟩ .nil)) 339 ⟨1, 8, [.nilp], .ptr⟩ (.node (.node (.node .nil 340 ⟨1, 8, [.nilf], .other⟩ .nil) 341 ⟨1, 8, [.nilf], .other⟩ .nil) 342 ⟨1, 8, [.nilf], .other⟩ (.node .nil 343 ⟨1, 8, [.nilf], .other⟩ .nil))))) 344 ⟨1, 8, [.nilf], .other⟩ (.node (.node (.node (.node (.node (.node .nil 345 ⟨1, 8, [.nilf], .other⟩ .nil) 346 ⟨1, 8, [.nilf], .other⟩ .nil) 347 ⟨1, 8, [.nilf], .other⟩ (.node (.node .nil 348 ⟨1, 8, [.nilf], .other⟩ .nil) 349 ⟨1, 8, [.nilf], .other⟩ .nil)) 350 ⟨1, 8, [.nilf], .other⟩ (.node (.node (.node .nil 351 ⟨1, 24, [.nils], .slice 47⟩ .nil) 352 ⟨1, 8, [.nilf], .other⟩ .nil) 353 ⟨1, 8, [.nilf], .other⟩ (.node (.node .nil 354 ⟨1, 8, [.nilf], .other⟩ .nil) 355 ⟨1, 8, [.nilf], .other⟩ .nil))) 356 ⟨1, 8, [.nilf], .other⟩ (.node (.node (.node (.node .nil 357 ⟨1, 8, [.nilf], .other⟩ .nil) 358 ⟨1, 8, [.nilf], .other⟩ .nil) 359 ⟨1, 8, [.nilf], .other⟩ (.node (.node .nil 360 ⟨1, 8, [.nilf], .other⟩ .nil) 361 ⟨1, 8, [.nilp], .ptr⟩ .nil)) 362 ⟨1, 8, [.nilp], .ptr⟩ (.node (.node (.node .nil 363 ⟨1, 8, [.nilf], .other⟩ .nil) 364 ⟨1, 8, [.nilf], .other⟩ .nil) 365 ⟨1, 8, [.nilf], .other⟩ (.node (.node .nil 366 ⟨1, 8, [.nilf], .other⟩ .nil) 367 ⟨1, 8, [.nilf], .other⟩ .nil)))) 368 ⟨1, 8, [.nilf], .other⟩ (.node (.node (.node (.node (.node .nil 369 ⟨1, 8, [.nilf], .other⟩ .nil) 370 ⟨1, 8, [.nilf], .other⟩ .nil) 371 ⟨1, 8, [.nilf], .other⟩ (.node (.node .nil 372 ⟨1, 8, [.nilf], .other⟩ .nil) 373 ⟨1, 8, [.nilf], .other⟩ .nil)) 375 ⟨1, 8, [.nilf], .other⟩ (.node (.node (.node .nil 376 ⟨1, 8, [.nilf], .other⟩ .nil) 378 ⟨1, 8, [.nilf], .other⟩ .nil) 379 ⟨1, 8, [.nilf], .other⟩ (.node (.node .nil 380 ⟨1, 8, [.nilf], .other⟩ .nil) 381 ⟨1, 8, [.nilf], .other⟩ .nil))) 382 ⟨1, 8, [.nilf], .other⟩ (.node (.node (.node (.node .nil 384 ⟨1, 8, [.nilf], .other⟩ .nil) 385 ⟨1, 8, [.nilf], .other⟩ .nil) 391 ⟨1, 4, [.int .u32 0], .int .u32⟩ (.node (.node .nil 392 ⟨1, 1, [.int .u8 0], .int .u8⟩ .nil) 393 ⟨1, 1, [.int .u8 0], .int .u8⟩ .nil)) 394 ⟨1, 8, [.nilf], .other⟩ (.node (.node (.node .nil 395 ⟨1, 8, [.nilp], .ptr⟩ .nil) 396 ⟨1, 4, [.int .i32 0], .int .i32⟩ .nil) 397 ⟨1, 4, [.int .i32 0], .int .i32⟩ (.node .nil 400 ⟨1, 8, [.nilp], .other⟩ .nil))))))))
def ttAll (p : Nat → TyI → Bool) : TT → Bool
  | .nil => true
  | .node l t i r => ttAll p l && (p t i && ttAll p r)
theorem look_all {p : Nat → TyI → Bool} : ∀ {tb : TT} {t : Nat} {i : TyI}, ttAll p tb = true → tb.look t = some i → p t i = true
  | .nil, _, _, _, h => by simp [TT.look] at h
  | .node l t' i' r, t, i, ha, h => by
    simp only [ttAll, Bool.and_eq_true] at ha
    simp only [TT.look] at h
    cases hb : Nat.beq t t' with
    | true =>
      rw [hb] at h
      injection h with h
      subst h
      cases Nat.eq_of_beq_eq_true hb
      exact ha.2.1
    | false =>
      rw [hb] at h
      cases hl : Nat.blt t t' with
      | true => rw [hl] at h; exact look_all ha.1 h
      | false => rw [hl] at h; exact look_all ha.2.2 h
def deq : D → D → Bool
  | .bool a, .bool b => a == b
  | .int k a, .int l b => k == l && a == b
  | .str [], .str [] => true
  | .nils, .nils => true
  | .nilp, .nilp => true
  | .nilf, .nilf => true
  | .nilm, .nilm => true
  | _, _ => false
theorem deq_ok {a b : D} (h : deq a b = true) : a = b := by
  unfold deq at h
  split at h <;> simp_all
def zeroB : List Value → List D → Bool
  | [], [] => true
  | v :: vs, d :: ds => (match zD v with | some e => deq e d | none => false) && zeroB vs ds
  | _, _ => false
theorem zeroB_ok : ∀ (vs : List Value) (ds : List D), zeroB vs ds = true → zeroOk vs ds
  | [], [], _ => trivial
  | v :: vs, d :: ds, h => by
    simp only [zeroB, Bool.and_eq_true] at h
    refine ⟨?_, zeroB_ok vs ds h.2⟩
    cases hz : zD v with
    | none => rw [hz] at h; cases h.1
    | some e => rw [hz] at h; rw [deq_ok h.1]
  | [], _ :: _, h => by simp [zeroB] at h
  | _ :: _, [], h => by simp [zeroB] at h
def tyB (P : Program) (t : Nat) (i : TyI) : Bool :=
  match P.info? t with
  | some inf => inf.size == i.size && inf.bytes == i.bytes && (kdOk P t i.kind && (!i.kind.isRow || eqOkB P t)) && (match inf.zero with
    | some z => zeroB z.cells.toList i.zero && z.cells.size == i.size && ((match z with | .agg _ => true | _ => false) == i.kind.isRow)
    | none => false)
  | none => false
theorem tyB_ok {P : Program} {t : Nat} {i : TyI} (h : tyB P t i = true) : i.ok P t := by
  unfold tyB at h
  split at h
  · rename_i inf hi
    simp only [Bool.and_eq_true, beq_iff_eq] at h
    obtain ⟨⟨⟨h1, h2⟩, h3, h5⟩, h4⟩ := h
    split at h4
    · rename_i z hz
      simp only [Bool.and_eq_true, beq_iff_eq] at h4
      obtain ⟨⟨k1, k2⟩, k3⟩ := h4
      refine ⟨⟨inf, z, hi, h1, h2, hz, zeroB_ok _ _ k1, k2, ?_⟩, h3, fun hr => by simpa [hr] using h5⟩
      rw [← k3]
      cases z <;> simp
    · cases h4
  · cases h
theorem tyTab_ok : tyTab.ok Tryz.prog := fun t i h => tyB_ok (look_all (p := tyB Tryz.prog) (by kernel_rfl) h)
end Go.Proofs.YteaggenihhaajaaGreat

/- Walks computed: the walk once more, by the recursors alone: so it unfolds in one way only, and two readings of a term meet at once. No program here. -/
namespace Go.Proofs.YteaggenihhaajaaGreat
open Go.RowKit
set_option linter.unusedSectionVars false
variable [Wd]
set_option linter.unusedVariables false

noncomputable def xR (E : En) (ops l : List Oper) : S → (S → T) → T :=
  List.rec (motive := fun _ => S → (S → T) → T) (fun s k => k s) (fun o _ ih s k => execG E ops o s (fun s' => ih s' k)) l
theorem xR_eq (E : En) (ops : List Oper) : ∀ (l : List Oper) (s : S) (k : S → T), xR E ops l s k = execR E ops l s k
  | [], s, k => rfl
  | o :: r, s, k => by
    show execG E ops o s (fun s' => xR E ops r s' k) = execG E ops o s (fun s' => execR E ops r s' k)
    rw [show (fun s' => xR E ops r s' k) = fun s' => execR E ops r s' k from funext fun s' => xR_eq E ops r s' k]
/-- a region that draws -/
noncomputable def xA (E : En) (ops : List Oper) (hr : List AO) (md : List Nat) (pl : PT) : Bool → S → (S → T) → T :=
  PT.rec (motive := fun _ => Bool → S → (S → T) → T) (fun _ s k => k s) (fun i al _ ih gr s k => runA E ops hr md i al gr (fun g s' => ih g s' k) s)
    (fun i _ _ iha ihr gr s k => .both (runA E ops hr md i true gr (fun g s' => iha g s' k) s) (ihr gr s k)) pl
theorem xA_eq (E : En) (ops : List Oper) (hr : List AO) (md : List Nat) (pl : PT) : ∀ (gr : Bool) (s : S) (k : S → T), xA E ops hr md pl gr s k = execA E ops hr md pl gr s k := by
  induction pl with
  | done => exact fun _ _ _ => rfl
  | one i al r ih =>
    intro gr s k
    show runA E ops hr md i al gr (fun g s' => xA E ops hr md r g s' k) s = runA E ops hr md i al gr (fun g s' => execA E ops hr md r g s' k) s
    rw [show (fun g s' => xA E ops hr md r g s' k) = fun g s' => execA E ops hr md r g s' k from funext fun g => funext fun s' => ih g s' k]
  | alt i a r iha ihr =>
    intro gr s k
    show T.both (runA E ops hr md i true gr (fun g s' => xA E ops hr md a g s' k) s) (xA E ops hr md r gr s k) = T.both (runA E ops hr md i true gr (fun g s' => execA E ops hr md a g s' k) s) (execA E ops hr md r gr s k)
    rw [show (fun g s' => xA E ops hr md a g s' k) = fun g s' => execA E ops hr md a g s' k from funext fun g => funext fun s' => iha g s' k, ihr]
noncomputable def xC (E : En) (m : Nat) (PL : List (Nat × PlanT)) (c : Code) : S → (Exit → S → T) → T :=
  Code.rec (motive := fun _ => S → (Exit → S → T) → T)
    (fun s K => K .normal s)
    (fun id ops dr s K => match dr with
      | false => xR E ops.toList ops.toList s (K .normal)
      | true => .ask ((planOk ops (planOf PL id ops.toList s).t (Array.replicate ops.size false) false && (Region.noSelect ops && Nat.ble (planOf PL id ops.toList s).t.depth ops.size)) = true)
        (xA E ops.toList s.h (planOf PL id ops.toList s).md (planOf PL id ops.toList s).t false s (K .normal)))
    (fun _ _ a b s K => a s fun e s' => match e with
      | .normal => b s' K
      | e => K e s')
    (fun c _ _ a b s K => match ev s c with
      | .bool v => .br v (a s K) (b s K)
      | _ => .fail 70)
    (fun id _ c s K => c s fun e s' => match e with
      | .exit id' => bif Nat.beq id' id then K .normal s' else K (.exit id') s'
      | e => K e s')
    (fun _ c s K => .loop m s (fun s' => c s' .leaf) K)
    (fun _ _ _ _ _ _ _ _ => .fail 71)
    (fun id s K => K (.exit id) s)
    (fun _ _ _ _ => .fail 71)
    (fun _ _ _ => .fail 71)
    (fun _ _ _ => .fail 71)
    (fun s K => K .ret s)
    (fun _ _ _ => .fail 71) c
theorem xC_eq (E : En) (m : Nat) (PL : List (Nat × PlanT)) : ∀ (c : Code) (s : S) (K : Exit → S → T), xC E m PL c s K = execC E m PL c s K
  | .skip, s, K => rfl
  | .region id ops false, s, K => xR_eq E ops.toList ops.toList s (K .normal)
  | .region id ops true, s, K => by
    show T.ask _ (xA E ops.toList s.h (planOf PL id ops.toList s).md (planOf PL id ops.toList s).t false s (K .normal)) = _
    rw [xA_eq]
    rfl
  | .seq a b, s, K => by
    show xC E m PL a s (fun e s' => match e with
      | .normal => xC E m PL b s' K
      | e => K e s') = _
    rw [xC_eq E m PL a]
    show _ = execC E m PL a s (fun e s' => match e with
      | .normal => execC E m PL b s' K
      | e => K e s')
    congr 1
    funext e s'
    cases e <;> first | exact xC_eq E m PL b s' K | rfl
  | .cond c a b, s, K => by
    show (match ev s c with
      | .bool v => .br v (xC E m PL a s K) (xC E m PL b s K)
      | _ => .fail 70 : T) = _
    rw [xC_eq E m PL a, xC_eq E m PL b]
    rfl
  | .block id c, s, K => xC_eq E m PL c s _
  | .loop c, s, K => by
    show T.loop m s (fun s' => xC E m PL c s' .leaf) K = _
    rw [show (fun s' => xC E m PL c s' .leaf) = fun s' => execC E m PL c s' .leaf from funext fun s' => xC_eq E m PL c s' .leaf]
    rfl
  | .exit id, s, K => rfl
  | .ret, s, K => rfl
  | .rangeFunc _ _ _ _, s, K => rfl
  | .scope _, s, K => rfl
  | .label _, s, K => rfl
  | .goto _, s, K => rfl
  | .refuse _, s, K => rfl
end Go.Proofs.YteaggenihhaajaaGreat

/- The rule for this program's functions; elder contracts as data. -/
namespace Go.Proofs.YteaggenihhaajaaGreat
open Go.RowKit
set_option linter.unusedVariables false

theorem mkT' [Wd] (dt : Bool) {f : FuncId} {fn : Func} {c : Code} {ar : List D} {h : List AO} {Post : D → List AO → Prop} (n : Nat) (PL : List (Nat × PlanT)) (hf : Tryz.prog.funcs[f]? = some fn) (hb : fn.body = some c) (hn : (Nat.beq fn.ntmps n && (Nat.ble ar.length n && calleeOk Tryz.prog f)) = true)
    (hx : (xC ⟨tyTab, n, dt, 0⟩ h.length PL c ⟨argT 0 ar, h⟩ .leaf).ok Tryz.prog (Lf tyTab fn.results.toList h Post)) : FnS Tryz.prog f ar h Post := by
  simp only [Bool.and_eq_true] at hn
  rw [xC_eq] at hx
  exact FnS.of_exec (E := ⟨tyTab, n, dt, 0⟩) hf hb (Nat.eq_of_beq_eq_true hn.1) tyTab_ok (by kernel_rfl) hn.2.2 rfl (Nat.le_of_ble_eq_true hn.2.1) hx
/-- by plans with orders beside one another -/
theorem mkT [Wd] {f : FuncId} {fn : Func} {c : Code} {ar : List D} {h : List AO} {Post : D → List AO → Prop} (n : Nat) (PL : List (Nat × PlanT)) (hf : Tryz.prog.funcs[f]? = some fn) (hb : fn.body = some c) (hn : (Nat.beq fn.ntmps n && (Nat.ble ar.length n && calleeOk Tryz.prog f)) = true)
    (hx : (xC ⟨tyTab, n, true, 0⟩ h.length PL c ⟨argT 0 ar, h⟩ .leaf).ok Tryz.prog (Lf tyTab fn.results.toList h Post)) : FnS Tryz.prog f ar h Post := mkT' true n PL hf hb hn hx
def plans : List (Nat × Plan) → List (Nat × PlanT)
  | [] => []
  | (i, p) :: r => (i, p.t) :: plans r
theorem mkS' [Wd] (dt : Bool) {f : FuncId} {fn : Func} {c : Code} {ar : List D} {h : List AO} {Post : D → List AO → Prop} (n : Nat) (PL : List (Nat × Plan)) (hf : Tryz.prog.funcs[f]? = some fn) (hb : fn.body = some c) (hn : (Nat.beq fn.ntmps n && (Nat.ble ar.length n && calleeOk Tryz.prog f)) = true)
    (hx : (xC ⟨tyTab, n, dt, 0⟩ h.length (plans PL) c ⟨argT 0 ar, h⟩ .leaf).ok Tryz.prog (Lf tyTab fn.results.toList h Post)) : FnS Tryz.prog f ar h Post := mkT' dt n (plans PL) hf hb hn hx
theorem mkS [Wd] {f : FuncId} {fn : Func} {c : Code} {ar : List D} {h : List AO} {Post : D → List AO → Prop} (n : Nat) (PL : List (Nat × Plan)) (hf : Tryz.prog.funcs[f]? = some fn) (hb : fn.body = some c) (hn : (Nat.beq fn.ntmps n && (Nat.ble ar.length n && calleeOk Tryz.prog f)) = true)
    (hx : (xC ⟨tyTab, n, true, 0⟩ h.length (plans PL) c ⟨argT 0 ar, h⟩ .leaf).ok Tryz.prog (Lf tyTab fn.results.toList h Post)) : FnS Tryz.prog f ar h Post := mkT' true n (plans PL) hf hb hn hx
/-- of the world nothing is asked -/
instance wd0 : Wd where
  A := fun _ => False
  W := fun _ _ => True
  aI := fun _ _ h => h.elim
  cl := fun _ _ _ => trivial
theorem FnS.old [Wd] {P : Program} {f : FuncId} {ar : List D} {r : D} {v : Value} (hv : ∀ I w, Dr I w v r) (hcal : calleeOk P f = true) (h : ∀ w I vs, Drs I w vs ar → Calls P f vs.toArray w fun e w' => e = .returned v ∧ B w w') (hp : pureD.pl ar = true) : FnS P f ar [] (fun r' h' => r' = r ∧ h' = []) := by
  refine ⟨hcal, fun w I g vs _ hd ha => (h w I vs (pureL_ok ha hp)).mono ?_⟩
  rintro e w' ⟨rfl, hb⟩
  have hg : g = [] := List.eq_nil_of_length_eq_zero hd.len
  subst hg
  exact ⟨v, I, [], r, [], rfl, ⟨rfl, rfl⟩, hd.later hb, .rd (hv I w'), Ext.of_B hb, fun _ h => h, fun _ h => .inl h, fun b h => .inl h, fun o p t cs _ h => by simp at h⟩
end Go.Proofs.YteaggenihhaajaaGreat

/- The form of a number, as a list of bytes. Plain; and codec.form. -/
namespace Go.Proofs.YteaggenihhaajaaGreat
open Go.RowKit
set_option linter.unusedVariables false

/-- seven bits a byte, the least first -/
def enc (n : Nat) : List UInt8 := if h : n < 128 then [UInt8.ofNat n] else UInt8.ofNat (n % 128 + 128) :: enc (n / 128)
  termination_by n
  decreasing_by omega
theorem enc_lt {n : Nat} (h : n < 128) : enc n = [UInt8.ofNat n] := by rw [enc, dif_pos h]
theorem enc_ge {n : Nat} (h : ¬ n < 128) : enc n = UInt8.ofNat (n % 128 + 128) :: enc (n / 128) := by rw [enc, dif_neg h]
theorem enc_pos (n : Nat) : 0 < (enc n).length := by
  by_cases h : n < 128
  · rw [enc_lt h]; simp
  · rw [enc_ge h]; simp
theorem enc_le (k : Nat) : ∀ n, n < 128 ^ (k + 1) → (enc n).length ≤ k + 1 := by
  induction k with
  | zero => intro n h; rw [enc_lt (by simpa using h)]; simp
  | succ k ih =>
    intro n h
    by_cases hn : n < 128
    · rw [enc_lt hn]; simp
    · rw [enc_ge hn]
      have := ih (n / 128) (by rw [Nat.div_lt_iff_lt_mul (by omega)]; rw [Nat.pow_succ] at h; exact h)
      simp; omega
theorem enc_10 {n : Nat} (h : n < 18446744073709551616) : (enc n).length ≤ 10 := enc_le 9 n (Nat.lt_of_lt_of_le h (by decide))
theorem orB (m : Nat) : bits BinOp.or IntKind.u8 ((m : Int) % 256) 128 = ((m % 128 + 128 : Nat) : Int) := by
  have h : ∀ k : Fin 256, bits BinOp.or IntKind.u8 ((k.val : Int)) 128 = ((k.val % 128 + 128 : Nat) : Int) := by decide +kernel
  have := h ⟨m % 256, Nat.mod_lt _ (by omega)⟩
  simp only at this
  rw [show ((m : Int) % 256) = ((m % 256 : Nat) : Int) by omega, this]
  congr 1; omega
/-- the cells of an array of ten that begins with bytes -/
def ten (p : List UInt8) : Array Value := (cellsB p ++ List.replicate (10 - p.length) (Value.int IntKind.u8 0)).toArray
theorem ten_size {p : List UInt8} (h : p.length ≤ 10) : (ten p).size = 10 := by simp [ten, cellsB_len]; omega
theorem ten_set {p : List UInt8} (h : p.length < 10) (k : Nat) (hk : k < 256) : (ten p).setIfInBounds p.length (.int .u8 (k : Int)) = ten (p ++ [UInt8.ofNat k]) := by
  apply Array.ext'
  simp only [ten, Array.toList_setIfInBounds, List.length_append, List.length_singleton]
  rw [List.set_append_right _ _ (by rw [cellsB_len]; omega), cellsB_len, Nat.sub_self]
  obtain ⟨j, hj⟩ : ∃ j, 10 - p.length = j + 1 := ⟨10 - p.length - 1, by omega⟩
  rw [hj, show 10 - (p.length + 1) = j by omega, List.replicate_succ, List.set_cons_zero, cellsB_app]
  simp only [List.append_assoc]
  congr 1
  simp [cellsB]
  omega
theorem ten_lit {p : List UInt8} (h : p.length ≤ 10) : ∃ x0 x1 x2 x3 x4 x5 x6 x7 x8 x9 : Int, ten p = #[.int .u8 x0, .int .u8 x1, .int .u8 x2, .int .u8 x3, .int .u8 x4, .int .u8 x5, .int .u8 x6, .int .u8 x7, .int .u8 x8, .int .u8 x9] := by
  have hs := ten_size h
  have hall : ∀ v ∈ (ten p).toList, ∃ x : Int, v = .int .u8 x := by
    intro v hv
    simp only [ten, List.mem_append, cellsB, List.mem_map, List.mem_replicate] at hv
    rcases hv with ⟨b, _, rfl⟩ | ⟨_, rfl⟩
    · exact ⟨_, rfl⟩
    · exact ⟨_, rfl⟩
  obtain ⟨l, hl⟩ : ∃ l, (ten p).toList = l := ⟨_, rfl⟩
  have e : ten p = l.toArray := by rw [← hl]
  rw [hl] at hall
  have hl10 : l.length = 10 := by rw [← hl]; simpa using hs
  match l, hl10 with
  | [a0, a1, a2, a3, a4, a5, a6, a7, a8, a9], _ =>
    obtain ⟨x0, rfl⟩ := hall a0 (by simp)
    obtain ⟨x1, rfl⟩ := hall a1 (by simp)
    obtain ⟨x2, rfl⟩ := hall a2 (by simp)
    obtain ⟨x3, rfl⟩ := hall a3 (by simp)
    obtain ⟨x4, rfl⟩ := hall a4 (by simp)
    obtain ⟨x5, rfl⟩ := hall a5 (by simp)
    obtain ⟨x6, rfl⟩ := hall a6 (by simp)
    obtain ⟨x7, rfl⟩ := hall a7 (by simp)
    obtain ⟨x8, rfl⟩ := hall a8 (by simp)
    obtain ⟨x9, rfl⟩ := hall a9 (by simp)
    exact ⟨x0, x1, x2, x3, x4, x5, x6, x7, x8, x9, e⟩

theorem form_le {n m : Nat} {p : List UInt8} (hp : m * 128 ^ p.length ≤ n) : m ≤ n :=
  Nat.le_trans (Nat.le_mul_of_pos_right m (Nat.one_le_pow _ _ (by omega))) hp
theorem form_more {n m : Nat} {p : List UInt8} (h : n < 18446744073709551616) (hp : m * 128 ^ p.length ≤ n) (hm : 127 < m) : p.length < 9 := by
  rcases Nat.lt_or_ge p.length 9 with h | h
  · exact h
  · have h1 := Nat.pow_le_pow_right (show 0 < 128 by omega) h
    have h2 : 128 * 128 ^ p.length ≤ m * 128 ^ p.length := Nat.mul_le_mul_right _ (by omega)
    have e10 : (128 : Nat) ^ 9 = 9223372036854775808 := by decide
    omega
set_option maxRecDepth 20000 in
set_option maxHeartbeats 1000000 in
theorem form115 (w : World) (n : Nat) (hn : n < 18446744073709551616) : Calls Tryz.prog 213 #[.int .u64 (n : Int)] w fun e w' => e = .returned (.tuple #[.agg (ten (enc n)), .int .i64 ((enc n).length : Int)]) ∧ B w w' := by
  have HN := Lib.hid hn
  have hz : ten [] = #[.int .u8 0, .int .u8 0, .int .u8 0, .int .u8 0, .int .u8 0, .int .u8 0, .int .u8 0, .int .u8 0, .int .u8 0, .int .u8 0] := rfl
  have k1 : Blk ((w.alloc (.cells (ten []) 288)).alloc (.cells (ten []) 288)) w.heap.size 288 (ten []) := (Blk.new w _ _).alloc _
  have k2 : Blk ((w.alloc (.cells (ten []) 288)).alloc (.cells (ten []) 288)) (w.heap.size + 1) 288 (ten []) := by simpa using Blk.new (w.alloc (.cells (ten []) 288)) 288 (ten [])
  have k3 : B w ((w.alloc (.cells (ten []) 288)).alloc (.cells (ten []) 288)) := (B.alloc' _ _).trans (B.alloc' _ _)
  rw [hz] at k1 k2 k3
  clear hz hn
  go_enter Tryz.func213, Tryz.ntmps213
  go_wp2_with fail
  rw [← show ten [] = #[Value.int IntKind.u8 0, .int .u8 0, .int .u8 0, .int .u8 0, .int .u8 0, .int .u8 0, .int .u8 0, .int .u8 0, .int .u8 0, .int .u8 0] from rfl] at k1 k2 k3
  go_loopw [0, 5] (fun x k wr => ∃ (m q : Nat) (p : List UInt8), x = .int .u64 (m : Int) ∧ k = .int .i64 (q : Int) ∧ Hid (p.length = q) ∧ Hid (enc n = p ++ enc m) ∧ q < 10 ∧ Hid (m * 128 ^ q ≤ n) ∧ Hid (Blk wr w.heap.size 288 (ten [])) ∧ Hid (Blk wr (w.heap.size + 1) 288 (ten p)) ∧ Hid (B w wr)) (fun x _ _ => (intOf x).toNat)
  case atStart => exact ⟨n, 0, [], rfl, rfl, rfl, rfl, by omega, by show n * 128 ^ 0 ≤ n; omega, k1, k2, k3⟩
  case round =>
    obtain ⟨m, q, p, rfl, rfl, HL, HE, hq, HP, H1, H2, H3⟩ := hrel
    clear k1 k2 k3
    have hmn := Lib.hid (form_le (p := p) (by rw [HL.out]; exact HP.out))
    have hsz := Lib.hid (ten_size (p := p) (by rw [HL.out]; omega))
    have c3 := H2.out.frozen q
    obtain ⟨cv, c2⟩ : ∃ cv, wr.cell? ⟨w.heap.size + 1, q, none⟩ = some cv := by
      rw [H2.out.cell]
      exact ⟨(ten p)[q]'(by rw [hsz.out]; omega), Array.getElem?_eq_getElem _⟩
    have hqi : (q : Int) < 10 := by omega
    by_cases hm : 127 < m
    · have hpl := Lib.hid (form_more (p := p) HN.out (by rw [HL.out]; exact HP.out) hm)
      go_wp2_with fail
      go_roundw
      case rel =>
        have hq9 : q < 9 := by have := hpl.out; have := HL.out; omega
        refine ⟨m / 128, q + 1, p ++ [UInt8.ofNat (m % 128 + 128)], by go_num, by go_num, ?_, ?_, by omega, ?_, H1.out.far (by simp) _, ?_, H3.out.setCell (by simp) _⟩
        · show (p ++ [_]).length = q + 1
          rw [List.length_append, HL.out]; rfl
        · show enc n = _
          rw [HE.out, enc_ge (by omega), List.append_assoc]; rfl
        · show m / 128 * 128 ^ (q + 1) ≤ n
          rw [Nat.pow_succ, Nat.mul_comm (128 ^ q) 128, ← Nat.mul_assoc]
          exact Nat.le_trans (Nat.mul_le_mul_right _ (Nat.div_mul_le_self m 128)) HP.out
        · show Blk _ _ _ _
          rw [orB]
          have := H2.out.set_ q (.int .u8 ((m % 128 + 128 : Nat) : Int))
          have e := ten_set (p := p) (by rw [HL.out]; omega) (m % 128 + 128) (by omega)
          rw [HL.out] at e
          rwa [e] at this
      case measure => simp [intOf]; omega
    · have hpt := ten_set (p := p) (by rw [HL.out]; omega) m (by omega)
      rw [HL.out] at hpt
      obtain ⟨x0, x1, x2, x3, x4, x5, x6, x7, x8, x9, hx⟩ := ten_lit (p := p ++ [UInt8.ofNat m]) (by simp; rw [HL.out]; omega)
      have HX := Lib.hid hx
      have HEN := Lib.hid (show enc n = p ++ [UInt8.ofNat m] by rw [HE.out, enc_lt (by omega)])
      have HT := Lib.hid (show Blk (wr.setCell ⟨w.heap.size + 1, q, none⟩ (.int .u8 (m : Int))) (w.heap.size + 1) 288 #[.int .u8 x0, .int .u8 x1, .int .u8 x2, .int .u8 x3, .int .u8 x4, .int .u8 x5, .int .u8 x6, .int .u8 x7, .int .u8 x8, .int .u8 x9] from by
        have := H2.out.set_ q (.int .u8 (m : Int)); rwa [hpt, hx] at this)
      have HZ := Lib.hid (show Blk (wr.setCell ⟨w.heap.size + 1, q, none⟩ (.int .u8 (m : Int))) w.heap.size 288 #[.int .u8 0, .int .u8 0, .int .u8 0, .int .u8 0, .int .u8 0, .int .u8 0, .int .u8 0, .int .u8 0, .int .u8 0, .int .u8 0] from H1.out.far (by simp) _)
      have HB := Lib.hid (show B w (wr.setCell ⟨w.heap.size + 1, q, none⟩ (.int .u8 (m : Int))) from H3.out.setCell (by simp) _)
      have hm256 : (m : Int) % 256 = m := by omega
      clear hpt hx
      go_wp2_with (refine wpList_load_row rfl 288 (.tmp 4) rfl (w.heap.size + 1) rfl 288 #[.int .u8 x0, .int .u8 x1, .int .u8 x2, .int .u8 x3, .int .u8 x4, .int .u8 x5, .int .u8 x6, .int .u8 x7, .int .u8 x8, .int .u8 x9] (0, 0) _ HT.out Tryz.underlying288 rfl (by kernel_rfl) ?_; have cz := fun i => HZ.out.cell i; have fz := fun i => HZ.out.frozen i; have HS := Lib.hid HB.out; generalize wr.setCell ⟨w.heap.size + 1, q, none⟩ (.int .u8 (m : Int)) = wz at *)
      refine bodyPost_ret (v := .tuple #[.agg #[.int .u8 x0, .int .u8 x1, .int .u8 x2, .int .u8 x3, .int .u8 x4, .int .u8 x5, .int .u8 x6, .int .u8 x7, .int .u8 x8, .int .u8 x9], .int .i64 ((q : Int) + 1)]) (by simp [results, Tryz.results213, go_sem, cz]) rfl ⟨?_, ?_⟩
      · rw [← HX.out, ← HEN.out]
        have e : ((q : Int) + 1) = ((enc n).length : Int) := by rw [HEN.out, List.length_append, HL.out]; simp
        rw [e]
      · repeat (refine Below.setCell ?_ (by simp) _)
        exact HB.out
end Go.Proofs.YteaggenihhaajaaGreat

/- What codec and its reference put: numbers, byte strings, lists. -/
namespace Go.Proofs.YteaggenihhaajaaGreat
open Go.RowKit
set_option linter.unusedVariables false

/-- a slice with no room behind it -/
def clipV : Value → Value | .slice A n _ => .slice A n n | v => v
set_option maxHeartbeats 400000 in
theorem clip116 {w : World} {v : Value} {bs : List UInt8} (h : Bs w v bs) : Calls Tryz.prog 214 #[v] w fun e w' => e = .returned (clipV v) ∧ w = w' := by
  obtain ⟨⟨A, cap, rfl, hn, hc, hm, hr⟩, hl⟩ := h
  have hm' : bs.length ≤ 9223372036854775807 := by unfold maxLen at hm; omega
  have hci : (bs.length : Int) ≤ (cap : Int) := by omega
  cases A with
  | none =>
    obtain ⟨rfl, rfl⟩ := hn rfl
    clear hr hn hc hm hl
    go_enter Tryz.func214, Tryz.ntmps214
    go_wp2
    go_ret
    exact ⟨rfl, rfl⟩
  | some ad =>
    clear hr hn hm hl
    go_enter Tryz.func214, Tryz.ntmps214
    go_wp2
    go_ret
    exact ⟨rfl, rfl⟩
/-- append where there is no room: a new row -/
theorem append_clip {P : Program} {t ty : TypeId} {w : World} {v u : Value} {bs news : List UInt8} (ht : P.underlying t = some (.slice 5)) (hi5 : (P.info? 5).map (fun i => (i.zero, i.size, i.bytes)) = some (some (.int .u8 0), 1, 1))
    (hv : Bs w v bs) (hu : Rd w u news.length 1 (cellsB news)) (hm : 0 < news.length) (hroom : bs.length + news.length ≤ big) :
    ∃ v' w', (Builtin.append_ #[t, t] ty #[clipV v, u]).run P w = .ok v' w' ∧ w'.ownsRow w.heap.size 5 1 v' (bs ++ news).length (cellsB (bs ++ news)) ∧ B w w' := by
  obtain ⟨⟨A, cap, rfl, hn, hc, hmx, hr⟩, hl⟩ := hv
  have hb1 : bs.length + news.length ≤ maxLen := by unfold big at hroom; unfold maxLen; omega
  have hb2 : (bs.length + news.length) * 1 ≤ 140737488355328 := by unfold big at hroom; omega
  cases A with
  | none =>
    obtain ⟨rfl, rfl⟩ := hn rfl
    obtain ⟨v', w', h1, h2, h3, h4⟩ := append_Rd (P := P) (t := t) (ty := ty) ht hi5 rfl Nat.zero_lt_one (ownNil w w.heap.size 5 1) hu (cellsB_one _) (by simpa using hb1) (by simpa using hb2) (Nat.le_refl _)
    exact ⟨v', w', h1, by simpa using h2, B.grown (Below.refl _ _) h3 (fun k hk => by simp [Value.ownBlock] at hk)⟩
  | some ad =>
    obtain ⟨i, hi, hz0, hs, hby⟩ := info_parts hi5
    obtain ⟨hul, A', c', rfl, hn', hc', hr'⟩ := hu
    cases A' with
    | none => have := (hn' rfl).1; omega
    | some ad' =>
      obtain ⟨v', w', h1, h2, h3⟩ := run_append_arg_grows (P := P) w t ty 5 i (.int .u8 0) 1 1 ht hi hz0 hs hby rfl Nat.zero_lt_one ad bs.length bs.length (cellsB bs) (by rw [cellsB_len]; omega) (hr ad rfl).2 ad' news.length c' (cellsB news) (by rw [cellsB_len]; omega) (hr' ad' rfl).2 (by omega) hb1 hb2
      exact ⟨v', w', h1, by rw [List.length_append, cellsB_app]; exact h2, B.grown (Below.refl _ _) h3 (fun k hk => by cases hk)⟩
theorem ten_rd {w : World} {g : Nat} {p : List UInt8} (hp : p.length ≤ 10) (h : Blk w g 288 (ten p)) : Rd w (.slice (some ⟨g, 0, none⟩) p.length 10) p.length 1 (cellsB p) := by
  refine ⟨by rw [cellsB_len]; omega, _, 10, rfl, fun e => (by cases e), hp, fun ad had => ?_⟩
  cases had
  refine ⟨fun _ => h.lt, fun j x hx => ?_⟩
  have ea : (⟨g, 0, none⟩ : Addr).add j = ⟨g, j, none⟩ := by unfold Addr.add; split <;> simp_all
  rw [ea, h.cell, ← hx]
  have hj : j < (cellsB p).length := by
    rcases Nat.lt_or_ge j (cellsB p).length with h | h
    · exact h
    · rw [List.getElem?_eq_none h] at hx; cases hx
  simp only [ten, List.getElem?_toArray]
  rw [List.getElem?_append_left hj]

set_option maxRecDepth 20000 in
set_option maxHeartbeats 1000000 in
theorem putNum70 {w : World} {v : Value} {bs : List UInt8} (h : Bs w v bs) (n : Nat) (hn : n < 18446744073709551616) (hl : bs.length + 10 ≤ big) : Calls Tryz.prog 151 #[v, .int .u64 (n : Int)] w (Fresh w (bs ++ enc n)) := by
  have H := Lib.hid h
  have HF := Lib.hid (form115 w n hn)
  have HE := Lib.hid (enc_10 hn)
  have HL := Lib.hid hl
  obtain ⟨x0, x1, x2, x3, x4, x5, x6, x7, x8, x9, hx⟩ := ten_lit (p := enc n) (enc_10 hn)
  have HX := Lib.hid hx
  have hq : (enc n).length ≤ 10 := enc_10 hn
  have hqi : ((enc n).length : Int) ≤ 10 := by omega
  clear h hn hl hx
  go_enter Tryz.func151, Tryz.ntmps151
  go_wp2_with (go_at_call 213; refine HF.out.mono ?_; rintro e w1 ⟨rfl, hb1⟩; rw [HX.out])
  have hb2 := hb1.trans (B.alloc' w1 (.cells #[.int .u8 x0, .int .u8 x1, .int .u8 x2, .int .u8 x3, .int .u8 x4, .int .u8 x5, .int .u8 x6, .int .u8 x7, .int .u8 x8, .int .u8 x9] 288))
  have hk : Blk (w1.alloc (.cells #[.int .u8 x0, .int .u8 x1, .int .u8 x2, .int .u8 x3, .int .u8 x4, .int .u8 x5, .int .u8 x6, .int .u8 x7, .int .u8 x8, .int .u8 x9] 288)) w1.heap.size 288 #[.int .u8 x0, .int .u8 x1, .int .u8 x2, .int .u8 x3, .int .u8 x4, .int .u8 x5, .int .u8 x6, .int .u8 x7, .int .u8 x8, .int .u8 x9] := Blk.new w1 _ _
  generalize w1.alloc (.cells #[.int .u8 x0, .int .u8 x1, .int .u8 x2, .int .u8 x3, .int .u8 x4, .int .u8 x5, .int .u8 x6, .int .u8 x7, .int .u8 x8, .int .u8 x9] 288) = w2 at *
  have hk' : Blk w2.drew w1.heap.size 288 (ten (enc n)) := by rw [HX.out]; exact hk
  obtain ⟨v', w3, hrun, h2, h3⟩ := append_clip (P := Tryz.prog) (t := 26) (ty := 26) Tryz.underlying26 info5 (H.out.later (hb2.trans (Below.refl _ _).drew)) (ten_rd HE.out hk') (enc_pos n) (by have := HE.out; have := HL.out; omega)
  have HC := Lib.hid (clip116 (H.out.later (hb2.trans (Below.refl _ _).drew)))
  have HB := Lib.hid (hb2.trans ((Below.refl _ _).drew.trans h3))
  have hs2 := hb2.size
  have HO := Lib.hid (row_base h2 (show w.heap.size ≤ w2.drew.heap.size from hs2))
  clear hk hk' h2 h3 hb1 hb2 hs2
  go_region_law (first
    | (refine step_call rfl 214 #[.tmp 12] #[26] rfl Tryz.call214 HC.out rfl ?_; rintro e wn ⟨rfl, rfl⟩; refine ⟨_, rfl, ?_⟩)
    | (refine step_append_run rfl (.tmp 13) (.tmp 15) 26 rfl rfl rfl hrun ?_))
  all_goals
    go_wp2_with fail
    go_ret
    exact ⟨v', rfl, HO.out, HB.out⟩
end Go.Proofs.YteaggenihhaajaaGreat

/- What codec and its reference put: byte strings, lists; how long a number's form is. -/
namespace Go.Proofs.YteaggenihhaajaaGreat
open Go.RowKit
set_option linter.unusedVariables false

theorem Fresh.mk {w w' : World} {bs : List UInt8} {v : Value} {n : Nat} {xs : List Value} (h : w'.ownsRow w.heap.size 5 1 v n xs) (hn : n = bs.length) (hx : xs = cellsB bs) (hb : B w w') : Fresh w bs (.returned v) w' := by
  subst hn hx; exact ⟨v, rfl, h, hb⟩
/-- append onto a row of the call's own: the bytes behind it -/
theorem Fresh.app {w w1 w2 : World} {z xs : List UInt8} {A1 A2 : Option Addr} {c1 c2 : Nat} (r1 : w1.ownsRow w.heap.size 5 1 (.slice A1 z.length c1) z.length (cellsB z)) (hb : B w w1)
    (r2 : w2.ownsRow w.heap.size 5 1 (.slice A2 (z.length + xs.length) c2) (z.length + xs.length) (cellsB z ++ cellsB xs)) (x2 : w1.grownBy w2 (Value.slice A1 z.length c1).ownBlock) : Fresh w (z ++ xs) (.returned (.slice A2 (z.length + xs.length) c2)) w2 :=
  Fresh.mk r2 (by simp) (by rw [cellsB_app]) (B.grown hb x2 (fun k hk => row_ge r1 hk))

theorem u64_id {x : Int} (h : 0 ≤ x ∧ x < 18446744073709551616) : IntKind.u64.wrap x = x := by
  simp [IntKind.wrap, IntKind.signed, IntKind.bits]; omega
def putB (bs xs : List UInt8) : List UInt8 := bs ++ enc xs.length ++ xs
set_option maxHeartbeats 1000000 in
theorem putBytes72 {w : World} {v u : Value} {bs xs : List UInt8} (h : Bs w v bs) (k : Bs w u xs) (hl : (bs ++ xs).length + 10 ≤ big) : Calls Tryz.prog 157 #[v, u] w (Fresh w (putB bs xs)) := by
  have hxl : xs.length < 18446744073709551616 := by have := k.len; unfold big at this; omega
  have hl' : bs.length + 10 + xs.length ≤ big := by simp at hl; omega
  have HP := Lib.hid (putNum70 h xs.length hxl (by omega))
  have h10 := enc_10 hxl
  have HK := Lib.hid k
  obtain ⟨z, hz⟩ : ∃ z, z = bs ++ enc xs.length := ⟨_, rfl⟩
  have hzl : z.length ≤ bs.length + 10 := by rw [hz, List.length_append]; omega
  rw [← hz] at HP
  have g1 : z.length + xs.length ≤ maxLen := by unfold big at hl'; unfold maxLen; omega
  have g2 : (z.length + xs.length) * 1 ≤ 140737488355328 := by unfold big at hl'; omega
  have o1 := cellsB_one xs
  have HZ := Lib.hid (show putB bs xs = z ++ xs by rw [hz]; rfl)
  have hxi : (xs.length : Int) ≤ 140737488355328 := by have := k.len; unfold big at this; omega
  rw [HZ.out]
  obtain ⟨B0, cp, rfl⟩ := HK.out.rd.slice
  clear h k hl hl' h10 hz hzl hxl
  go_enter Tryz.func157, Tryz.ntmps157
  go_wp2_with (first
    | (go_at_call 151; (with_reducible refine HP.out.mono ?_); rintro e w1 ⟨v1, rfl, r1, hb1⟩; obtain ⟨A1, c1, rfl⟩ := own_slice r1; have hb1s := hb1.size)
    | (at_builtin; refine wpList_append_Rd rfl (.tmp 9) (.tmp 10) 26 rfl Tryz.underlying26 info5 rfl Nat.zero_lt_one rfl rfl r1 (HK.out.later hb1).rd o1 g1 g2 hb1s ?_; intro A2 c2 w2 r2 x2 y2))
  go_ret
  exact Fresh.app r1 hb1 r2 x2

end Go.Proofs.YteaggenihhaajaaGreat

/- Byte slices cut; which number bytes say. -/
namespace Go.Proofs.YteaggenihhaajaaGreat
open Go.RowKit Go.Deep
set_option linter.unusedVariables false

/-- which number bytes say: the number, what is left, the error -/
def numGo (most : Nat) : Nat → Nat → List UInt8 → Nat × List UInt8 × Int
  | _, _, [] => (0, [], 10)
  | i, acc, c :: r =>
    if i = 9 ∧ 1 < c.toNat then (0, [], 11)
    else if 127 < c.toNat then numGo most (i + 1) (acc + c.toNat % 128 * 128 ^ i) r
    else if (0 < i ∧ c.toNat = 0) ∨ most < acc + c.toNat * 128 ^ i then (0, [], 11)
    else (acc + c.toNat * 128 ^ i, r, 0)
end Go.Proofs.YteaggenihhaajaaGreat

/- The reader of codec: its place in memory; stuck, Fail, Err, Left, Done, Read. -/
namespace Go.Proofs.YteaggenihhaajaaGreat
open Go.RowKit
set_option linter.unusedVariables false

set_option maxHeartbeats 400000 in
theorem clone63 {w : World} {v : Value} {bs : List UInt8} (h : Bs w v bs) : Calls Tryz.prog 79 #[v] w (ClonePost w bs) := by
  rcases h.isNil with ⟨rfl, rfl⟩ | ⟨ad, cap, rfl⟩
  · have q : ∀ w, (binOp .eql 26 (.slice none 0 0) (.slice none 0 0)).run Tryz.prog w = .ok (.bool true) w := fun w => by kernel_rfl
    have E := Lib.hid (show ClonePost w [] (.returned (.slice none 0 0)) w from ⟨_, rfl, ownNil w _ _ _, Below.refl _ _⟩)
    clear h
    go_enter Tryz.func79, Tryz.ntmps79
    go_wp2
    go_ret
    exact E.out
  · have q : ∀ w, (binOp .eql 26 (.slice (some ad) bs.length cap) (.slice none 0 0)).run Tryz.prog w = .ok (.bool false) w := fun w => by kernel_rfl
    have hb : B w (w.alloc (.cells #[] 5)) := B.alloc' _ _
    have ho : (w.alloc (.cells #[] 5)).ownsRow w.heap.size 5 1 (.slice (some ⟨w.heap.size, 0, none⟩) 0 0) ([] : List UInt8).length (cellsB []) := ⟨rfl, .inr ⟨_, 0, #[], rfl, Nat.le_refl _, heap_alloc_new w _, Nat.le_refl _, by unfold maxLen; omega, rfl, rfl⟩⟩
    obtain ⟨v', w', hrun, h2, h3, h4⟩ := append_Bs (P := Tryz.prog) (t := 26) (ty := 47) Tryz.underlying26 info5 ho (h.later hb) (by have := h.len; simpa using this) (by simp)
    have E := Lib.hid (show ClonePost w bs (.returned v') w' from ⟨_, rfl, h2, hb.grown h3 (fun k hk => by simp [Value.ownBlock] at hk; omega)⟩)
    clear h ho h2 h3 h4 hb
    go_enter Tryz.func79, Tryz.ntmps79
    go_wp2_with (at_builtin; refine wpList_append_run rfl (.tmp 5) (.tmp 6) 26 rfl rfl rfl hrun ?_)
    go_ret
    exact E.out
section
variable {W w : World} {p : Nat} {bs : List UInt8} {e : Int} {L : List Asn}
end
end Go.Proofs.YteaggenihhaajaaGreat

/- Num of codec's reader. -/
namespace Go.Proofs.YteaggenihhaajaaGreat
open Go.RowKit
set_option linter.unusedVariables false

theorem andB (y : Nat) (h : y < 256) : bits BinOp.and IntKind.u8 (y : Int) 127 = ((y % 128 : Nat) : Int) := by
  have h' : ∀ k : Fin 256, bits BinOp.and IntKind.u8 ((k.val : Int)) 127 = ((k.val % 128 : Nat) : Int) := by decide +kernel
  exact h' ⟨y, h⟩
theorem or64 (a e : Nat) (ha : a < 18446744073709551616) (he : e < 18446744073709551616) : bits BinOp.or IntKind.u64 (a : Int) (e : Int) = ((a ||| e : Nat) : Int) := by
  have hlt : a ||| e < 2 ^ 64 := Nat.or_lt_two_pow (by omega) (by omega)
  have e0 : bits BinOp.or IntKind.u64 (a : Int) (e : Int) = IntKind.u64.wrap (((BitVec.ofInt 64 (a : Int) ||| BitVec.ofInt 64 (e : Int)).toNat : Nat) : Int) := rfl
  have e1 : (BitVec.ofInt 64 (a : Int)) = BitVec.ofNat 64 a := by simp
  have e2 : (BitVec.ofInt 64 (e : Int)) = BitVec.ofNat 64 e := by simp
  rw [e0, e1, e2, BitVec.toNat_or, BitVec.toNat_ofNat, BitVec.toNat_ofNat, Nat.mod_eq_of_lt (show a < 2 ^ 64 by omega), Nat.mod_eq_of_lt (show e < 2 ^ 64 by omega)]
  exact u64_id (by omega)
/-- one digit more -/
theorem numStep (acc q y : Nat) (hy : y < 256) (hq : q ≤ 9) (ha : acc < 128 ^ q) : ∃ d e s : Nat, IntKind.u64.wrap (bits BinOp.and IntKind.u8 (y : Int) 127) = (d : Int) ∧ IntKind.u64.wrap ((d : Int) * 2 ^ (7 * q)) = (e : Int) ∧ bits BinOp.or IntKind.u64 (acc : Int) (e : Int) = (s : Int) ∧
    ((q < 9 ∨ y ≤ 1) → s = acc + y % 128 * 128 ^ q) := by
  have hp9 : 128 ^ q ≤ 9223372036854775808 := Nat.le_trans (Nat.pow_le_pow_right (by omega) hq) (by decide)
  have hpw : (2 : Nat) ^ (7 * q) = 128 ^ q := by rw [Nat.pow_mul]
  refine ⟨y % 128, y % 128 * 128 ^ q % 18446744073709551616, acc ||| (y % 128 * 128 ^ q % 18446744073709551616), ?_, ?_, ?_, ?_⟩
  · rw [andB y hy, u64_id (by omega)]
  · have : ((y % 128 : Nat) : Int) * 2 ^ (7 * q) = ((y % 128 * 128 ^ q : Nat) : Int) := by rw [← hpw]; push_cast; rfl
    rw [this]
    simp [IntKind.wrap, IntKind.signed, IntKind.bits]
  · exact or64 _ _ (by omega) (Nat.mod_lt _ (by omega))
  · intro h
    have hlt : y % 128 * 128 ^ q < 18446744073709551616 := by
      rcases h with h | h
      · have h8 : 128 ^ q ≤ 72057594037927936 := Nat.le_trans (Nat.pow_le_pow_right (by omega) (show q ≤ 8 by omega)) (by decide)
        have := Nat.mul_le_mul (show y % 128 ≤ 127 by omega) h8
        omega
      · have := Nat.mul_le_mul (show y % 128 ≤ 1 by omega) hp9
        omega
    have ha' : acc < 2 ^ (7 * q) := by rw [hpw]; exact ha
    rw [Nat.mod_eq_of_lt hlt, ← hpw, Nat.or_comm, Nat.mul_comm, ← Nat.two_pow_add_eq_or_of_lt ha', Nat.add_comm]
theorem acc_lt {acc q d : Nat} (ha : acc < 128 ^ q) (hd : d < 128) : acc + d * 128 ^ q < 128 ^ (q + 1) := by
  rw [Nat.pow_succ]
  have := Nat.mul_le_mul_right (128 ^ q) (show d ≤ 127 by omega)
  omega
theorem numGo_more {most i acc : Nat} {c : UInt8} {r : List UInt8} (h : 127 < c.toNat) (h9 : i ≠ 9) : numGo most i acc (c :: r) = numGo most (i + 1) (acc + c.toNat % 128 * 128 ^ i) r := by
  rw [numGo, if_neg (by omega), if_pos h]
theorem numGo_over {most i acc : Nat} {c : UInt8} {r : List UInt8} (h9 : i = 9) (h : 1 < c.toNat) : numGo most i acc (c :: r) = (0, [], 11) := by
  rw [numGo, if_pos ⟨h9, h⟩]
theorem numGo_bad {most i acc : Nat} {c : UInt8} {r : List UInt8} (h : c.toNat ≤ 127) (hb : (0 < i ∧ c.toNat = 0) ∨ most < acc + c.toNat * 128 ^ i) : numGo most i acc (c :: r) = (0, [], 11) := by
  rw [numGo]
  split
  · rfl
  · split
    · omega
    · rfl
theorem numGo_good {most i acc : Nat} {c : UInt8} {r : List UInt8} (h : c.toNat ≤ 127) (h9 : ¬ (i = 9 ∧ 1 < c.toNat)) (hb : ¬ ((0 < i ∧ c.toNat = 0) ∨ most < acc + c.toNat * 128 ^ i)) : numGo most i acc (c :: r) = (acc + c.toNat * 128 ^ i, r, 0) := by
  rw [numGo, if_neg h9, if_neg (by omega), if_neg hb]
section
variable {W w : World} {p : Nat} {bs : List UInt8} {e : Int} {L : List Asn}
end
end Go.Proofs.YteaggenihhaajaaGreat

/- Take, Bytes of codec's reader. -/
namespace Go.Proofs.YteaggenihhaajaaGreat
open Go.RowKit
set_option linter.unusedVariables false

section
variable {W w : World} {p : Nat} {bs : List UInt8} {e : Int} {L : List Asn}
/-- the number is at most what was asked -/
theorem numGo_le (most : Nat) : ∀ (bs : List UInt8) (i acc : Nat), (numGo most i acc bs).1 ≤ most
  | [], _, _ => Nat.zero_le _
  | c :: r, i, acc => by
    unfold numGo
    split
    · exact Nat.zero_le _
    · split
      · exact numGo_le most r _ _
      · split
        · exact Nat.zero_le _
        · rename_i h; show acc + c.toNat * 128 ^ i ≤ most; omega
end
end Go.Proofs.YteaggenihhaajaaGreat

/- List of codec's reader; rows of byte slices appended to. -/
namespace Go.Proofs.YteaggenihhaajaaGreat
open Go.RowKit
set_option linter.unusedVariables false

theorem numGo_len (most : Nat) : ∀ (bs : List UInt8) (i acc : Nat), (numGo most i acc bs).2.1.length ≤ bs.length ∧ ((numGo most i acc bs).2.2 = 0 → (numGo most i acc bs).2.1.length < bs.length)
  | [], _, _ => ⟨by simp [numGo], by simp [numGo]⟩
  | c :: r, i, acc => by
    have ih := numGo_len most r (i + 1) (acc + c.toNat % 128 * 128 ^ i)
    unfold numGo
    split
    · simp
    · split
      · exact ⟨by simp; omega, fun h => by have := ih.2 h; simp; omega⟩
      · split
        · simp
        · simp
section
variable {W w : World} {p : Nat} {bs : List UInt8} {e : Int} {L : List Asn}
end
end Go.Proofs.YteaggenihhaajaaGreat

/- List of codec's reader. -/
namespace Go.Proofs.YteaggenihhaajaaGreat
open Go.RowKit
set_option linter.unusedVariables false

section
variable {W w : World} {p : Nat} {bs : List UInt8} {e : Int} {L : List Asn}
end
end Go.Proofs.YteaggenihhaajaaGreat

/- The reference's reader. -/
namespace Go.Proofs.YteaggenihhaajaaGreat
open Go.RowKit
set_option linter.unusedVariables false

section
variable {W w : World} {p : Nat} {bs : List UInt8} {e : Int} {L : List Asn}
end
end Go.Proofs.YteaggenihhaajaaGreat

/- Num of the reference's reader. -/
namespace Go.Proofs.YteaggenihhaajaaGreat
open Go.RowKit
set_option linter.unusedVariables false

section
variable {W w : World} {p : Nat} {bs : List UInt8} {e : Int} {L : List Asn}
end
end Go.Proofs.YteaggenihhaajaaGreat

/- Take, Bytes, List of the reference's reader. -/
namespace Go.Proofs.YteaggenihhaajaaGreat
open Go.RowKit
set_option linter.unusedVariables false

section
variable {W w : World} {p : Nat} {bs : List UInt8} {e : Int} {L : List Asn}
end
end Go.Proofs.YteaggenihhaajaaGreat

/- What is put is read back, and what is read was put. Plain. -/
namespace Go.Proofs.YteaggenihhaajaaGreat
set_option linter.unusedVariables false

end Go.Proofs.YteaggenihhaajaaGreat
