/- Lemmas and contracts, part 15. -/
import Derived.Test.YteaggenihhaajaaGreatZk14
import Derived.Test.YteaggenihhaajaaGreatProg
/- The program's types, as far as a walk asks: a search tree. -/
namespace Go.Proofs.YteaggenihhaajaaGreat
def tyTab : TT := (.node (.node (.node (.node (.node (.node (.node (.node (.node .nil 1 ⟨1, 8, [.nilf], .other⟩ .nil) 2 ⟨1, 8, [.int .i64 0], .int .i64⟩ .nil) 3 ⟨1, 8, [.int .i64 0], .int .i64⟩ (.node (.node .nil 4 ⟨1, 1, [.bool false], .bool⟩ .nil) 5 ⟨1, 1, [.int .u8 0], .int .u8⟩ .nil)) 6 ⟨1, 1, [.int .u8 0], .int .u8⟩ (.node (.node (.node .nil 7 ⟨4, 24, [.int .i64 0, .int .i64 0, .bool false, .int .u8 0], .struct [(0, 2), (1, 3), (2, 4), (3, 6)]⟩ .nil) 8 ⟨4, 24, [.int .i64 0, .int .i64 0, .bool false, .int .u8 0], .struct [(0, 2), (1, 3), (2, 4), (3, 6)]⟩ .nil) 9 ⟨1, 16, [.str []], .str⟩ (.node (.node .nil 10 ⟨1, 16, [.str []], .str⟩ .nil) 11 ⟨1, 16, [.str []], .str⟩ .nil))) 12 ⟨1, 8, [.int .u64 0], .int .u64⟩ (.node (.node (.node (.node .nil 15 ⟨1, 8, [.nilp], .ptr⟩ .nil) 16 ⟨1, 8, [.nilp], .ptr⟩ .nil) 17 ⟨1, 8, [.nilp], .ptr⟩ (.node (.node .nil 21 ⟨1, 4, [.int .i32 0], .int .i32⟩ .nil) 22 ⟨1, 8, [.int .i64 0], .int .i64⟩ .nil)) 23 ⟨5, 40, [.int .i64 0, .int .i64 0, .int .i64 0, .int .i64 0, .int .i64 0], .struct [(0, 2), (1, 22), (2, 22), (3, 22), (4, 22)]⟩ (.node (.node (.node .nil 24 ⟨5, 40, [.int .i64 0, .int .i64 0, .int .i64 0, .int .i64 0, .int .i64 0], .struct [(0, 2), (1, 22), (2, 22), (3, 22), (4, 22)]⟩ .nil) 25 ⟨1, 24, [.nils], .slice 68⟩ .nil) 26 ⟨1, 24, [.nils], .slice 5⟩ (.node (.node .nil 27 ⟨1, 24, [.nils], .slice 59⟩ .nil) 28 ⟨3, 40, [.int .i64 0, .int .i64 0, .nils], .struct [(0, 2), (1, 22), (2, 27)]⟩ .nil)))) 29 ⟨3, 40, [.int .i64 0, .int .i64 0, .nils], .struct [(0, 2), (1, 22), (2, 27)]⟩ (.node (.node (.node (.node (.node .nil 30 ⟨1, 24, [.nils], .slice 86⟩ .nil) 31 ⟨1, 24, [.nils], .slice 29⟩ .nil) 32 ⟨5, 88, [.int .i64 0, .int .i64 0, .nils, .nils, .nils], .struct [(0, 29), (3, 30), (4, 31)]⟩ (.node (.node .nil 33 ⟨5, 88, [.int .i64 0, .int .i64 0, .nils, .nils, .nils], .struct [(0, 29), (3, 30), (4, 31)]⟩ .nil) 34 ⟨1, 24, [.nils], .slice 73⟩ .nil)) 35 ⟨1, 24, [.nils], .slice 63⟩ (.node (.node (.node .nil 36 ⟨1, 24, [.nils], .slice 75⟩ .nil) 37 ⟨1, 24, [.nils], .slice 77⟩ .nil) 38 ⟨1, 24, [.nils], .slice 84⟩ (.node (.node .nil 39 ⟨1, 24, [.nils], .struct [(0, 38)]⟩ .nil) 40 ⟨1, 24, [.nils], .struct [(0, 38)]⟩ .nil))) 41 ⟨2, 16, [.int .i64 0, .int .i64 0], .struct [(0, 3), (1, 3)]⟩ (.node (.node (.node (.node .nil 42 ⟨2, 16, [.int .i64 0, .int .i64 0], .struct [(0, 3), (1, 3)]⟩ .nil) 43 ⟨1, 24, [.nils], .slice 122⟩ .nil) 44 ⟨26, 400, [.int .i64 0, .bool false, .int .i64 0, .int .i64 0, .int .i64 0, .int .i64 0, .int .i64 0, .int .i64 0, .int .i64 0, .nils, .nils, .int .i64 0, .int .i64 0, .nils, .nils, .nils, .nils, .nils, .nils, .nils, .nils, .nils, .int .i64 0, .int .i64 0, .nils, .int .i64 0], .struct [(0, 2), (1, 4), (2, 2), (3, 2), (4, 24), (9, 25), (10, 26), (11, 33), (16, 31), (17, 34), (18, 35), (19, 36), (20, 37), (21, 40), (22, 42), (24, 43), (25, 2)]⟩ (.node (.node .nil 45 ⟨26, 400, [.int .i64 0, .bool false, .int .i64 0, .int .i64 0, .int .i64 0, .int .i64 0, .int .i64 0, .int .i64 0, .int .i64 0, .nils, .nils, .int .i64 0, .int .i64 0, .nils, .nils, .nils, .nils, .nils, .nils, .nils, .nils, .nils, .int .i64 0, .int .i64 0, .nils, .int .i64 0], .struct [(0, 2), (1, 4), (2, 2), (3, 2), (4, 24), (9, 25), (10, 26), (11, 33), (16, 31), (17, 34), (18, 35), (19, 36), (20, 37), (21, 40), (22, 42), (24, 43), (25, 2)]⟩ .nil) 46 ⟨1, 8, [.nilf], .other⟩ .nil)) 47 ⟨1, 8, [.int .i64 0], .int .i64⟩ (.node (.node (.node .nil 49 ⟨1, 8, [.nilf], .other⟩ .nil) 51 ⟨1, 8, [.nilf], .other⟩ .nil) 52 ⟨1, 8, [.nilf], .other⟩ (.node .nil 53 ⟨1, 8, [.nilf], .other⟩ .nil))))) 54 ⟨1, 8, [.nilf], .other⟩ (.node (.node (.node (.node (.node (.node .nil 55 ⟨1, 8, [.nilf], .other⟩ .nil) 56 ⟨1, 8, [.nilf], .other⟩ .nil) 57 ⟨1, 8, [.nilf], .other⟩ (.node (.node .nil 58 ⟨2, 16, [.int .i64 0, .int .i64 0], .struct [(0, 3), (1, 22)]⟩ .nil) 59 ⟨2, 16, [.int .i64 0, .int .i64 0], .struct [(0, 3), (1, 22)]⟩ .nil)) 60 ⟨1, 24, [.nils], .slice 84⟩ (.node (.node (.node .nil 61 ⟨1, 24, [.nils], .slice 65⟩ .nil) 62 ⟨8, 112, [.int .i64 0, .bool false, .int .i64 0, .int .i64 0, .int .i64 0, .nils, .nils, .nils], .struct [(0, 2), (1, 4), (2, 22), (3, 59), (5, 60), (6, 61), (7, 61)]⟩ .nil) 63 ⟨8, 112, [.int .i64 0, .bool false, .int .i64 0, .int .i64 0, .int .i64 0, .nils, .nils, .nils], .struct [(0, 2), (1, 4), (2, 22), (3, 59), (5, 60), (6, 61), (7, 61)]⟩ (.node (.node .nil 64 ⟨3, 24, [.int .i64 0, .int .i64 0, .int .i64 0], .struct [(0, 22), (1, 59)]⟩ .nil) 65 ⟨3, 24, [.int .i64 0, .int .i64 0, .int .i64 0], .struct [(0, 22), (1, 59)]⟩ .nil))) 66 ⟨1, 24, [.nils], .slice 71⟩ (.node (.node (.node (.node .nil 67 ⟨7, 88, [.int .i64 0, .int .i64 0, .int .i64 0, .int .i64 0, .int .i64 0, .nils, .nils], .struct [(0, 24), (5, 60), (6, 66)]⟩ .nil) 68 ⟨7, 88, [.int .i64 0, .int .i64 0, .int .i64 0, .int .i64 0, .int .i64 0, .nils, .nils], .struct [(0, 24), (5, 60), (6, 66)]⟩ .nil) 69 ⟨1, 24, [.nils], .slice 5⟩ (.node (.node .nil 70 ⟨3, 48, [.str [], .int .i64 0, .nils], .struct [(0, 9), (1, 2), (2, 69)]⟩ .nil) 71 ⟨3, 48, [.str [], .int .i64 0, .nils], .struct [(0, 9), (1, 2), (2, 69)]⟩ .nil)) 72 ⟨6, 64, [.int .i64 0, .int .i64 0, .int .i64 0, .int .i64 0, .int .i64 0, .nils], .struct [(0, 24), (5, 26)]⟩ (.node (.node (.node .nil 73 ⟨6, 64, [.int .i64 0, .int .i64 0, .int .i64 0, .int .i64 0, .int .i64 0, .nils], .struct [(0, 24), (5, 26)]⟩ .nil) 74 ⟨7, 88, [.int .i64 0, .int .i64 0, .int .i64 0, .int .i64 0, .int .i64 0, .nils, .nils], .struct [(0, 2), (1, 2), (2, 22), (3, 59), (5, 27), (6, 60)]⟩ .nil) 75 ⟨7, 88, [.int .i64 0, .int .i64 0, .int .i64 0, .int .i64 0, .int .i64 0, .nils, .nils], .struct [(0, 2), (1, 2), (2, 22), (3, 59), (5, 27), (6, 60)]⟩ (.node (.node .nil 76 ⟨8, 96, [.int .i64 0, .int .i64 0, .int .i64 0, .int .i64 0, .nils, .nils, .int .i64 0, .int .i64 0], .struct [(0, 2), (1, 3), (2, 29), (5, 36), (6, 59)]⟩ .nil) 77 ⟨8, 96, [.int .i64 0, .int .i64 0, .int .i64 0, .int .i64 0, .nils, .nils, .int .i64 0, .int .i64 0], .struct [(0, 2), (1, 3), (2, 29), (5, 36), (6, 59)]⟩ .nil)))) 78 ⟨1, 24, [.nils], .slice 69⟩ (.node (.node (.node (.node (.node .nil 79 ⟨5, 72, [.int .i64 0, .str [], .str [], .int .i64 0, .nils], .struct [(0, 3), (1, 9), (2, 9), (3, 2), (4, 78)]⟩ .nil) 80 ⟨5, 72, [.int .i64 0, .str [], .str [], .int .i64 0, .nils], .struct [(0, 3), (1, 9), (2, 9), (3, 2), (4, 78)]⟩ .nil) 81 ⟨7, 88, [.int .i64 0, .int .i64 0, .int .i64 0, .str [], .str [], .int .i64 0, .nils], .struct [(0, 3), (1, 2), (2, 80)]⟩ (.node (.node .nil 82 ⟨7, 88, [.int .i64 0, .int .i64 0, .int .i64 0, .str [], .str [], .int .i64 0, .nils], .struct [(0, 3), (1, 2), (2, 80)]⟩ .nil) 83 ⟨9, 104, [.int .i64 0, .int .i64 0, .int .i64 0, .str [], .str [], .int .i64 0, .nils, .int .i64 0, .int .i64 0], .struct [(0, 82), (7, 59)]⟩ .nil)) 84 ⟨9, 104, [.int .i64 0, .int .i64 0, .int .i64 0, .str [], .str [], .int .i64 0, .nils, .int .i64 0, .int .i64 0], .struct [(0, 82), (7, 59)]⟩ (.node (.node (.node .nil 85 ⟨4, 32, [.int .i64 0, .int .i64 0, .int .i64 0, .int .i64 0], .struct [(0, 2), (1, 22), (2, 59)]⟩ .nil) 86 ⟨4, 32, [.int .i64 0, .int .i64 0, .int .i64 0, .int .i64 0], .struct [(0, 2), (1, 22), (2, 59)]⟩ .nil) 87 ⟨1, 8, [.nilp], .ptr⟩ (.node (.node .nil 88 ⟨2, 32, [.nils, .bool false], .struct [(0, 26), (1, 4)]⟩ .nil) 89 ⟨2, 32, [.nils, .bool false], .struct [(0, 26), (1, 4)]⟩ .nil))) 90 ⟨1, 8, [.nilf], .other⟩ (.node (.node (.node (.node .nil 91 ⟨1, 8, [.nilp], .ptr⟩ .nil) 92 ⟨1, 8, [.nilf], .other⟩ .nil) 93 ⟨1, 8, [.nilp], .struct [(0, 91)]⟩ (.node (.node .nil 94 ⟨1, 8, [.nilp], .struct [(0, 91)]⟩ .nil) 95 ⟨1, 8, [.nilf], .other⟩ .nil)) 96 ⟨1, 8, [.nilf], .other⟩ (.node (.node (.node .nil 97 ⟨1, 8, [.nilf], .other⟩ .nil) 98 ⟨1, 8, [.nilf], .other⟩ .nil) 99 ⟨1, 8, [.nilf], .other⟩ (.node .nil 100 ⟨1, 8, [.nilf], .other⟩ .nil)))))) 101 ⟨1, 8, [.nilf], .other⟩ (.node (.node (.node (.node (.node (.node (.node .nil 102 ⟨1, 8, [.nilf], .other⟩ .nil) 103 ⟨1, 8, [.nilp], .ptr⟩ .nil) 104 ⟨2, 32, [.nils, .bool false], .struct [(0, 26), (1, 4)]⟩ (.node (.node .nil 105 ⟨2, 32, [.nils, .bool false], .struct [(0, 26), (1, 4)]⟩ .nil) 106 ⟨1, 8, [.nilf], .other⟩ .nil)) 107 ⟨1, 8, [.nilf], .other⟩ (.node (.node (.node .nil 108 ⟨1, 8, [.nilf], .other⟩ .nil) 109 ⟨1, 8, [.nilf], .other⟩ .nil) 110 ⟨1, 8, [.nilf], .other⟩ (.node (.node .nil 111 ⟨1, 8, [.nilf], .other⟩ .nil) 112 ⟨1, 8, [.nilf], .other⟩ .nil))) 113 ⟨1, 8, [.nilf], .other⟩ (.node (.node (.node (.node .nil 114 ⟨2, 16, [.int .i64 0, .int .i64 0], .struct [(0, 47), (1, 2)]⟩ .nil) 115 ⟨2, 16, [.int .i64 0, .int .i64 0], .struct [(0, 47), (1, 2)]⟩ .nil) 116 ⟨1, 24, [.nils], .slice 225⟩ (.node (.node .nil 117 ⟨1, 24, [.nils], .slice 24⟩ .nil) 118 ⟨1, 24, [.nils], .slice 22⟩ .nil)) 119 ⟨10, 152, [.str [], .int .i64 0, .nils, .nils, .int .i64 0, .int .i64 0, .nils, .int .i64 0, .int .i64 0, .nils], .struct [(0, 9), (1, 2), (2, 69), (3, 117), (4, 3), (5, 3), (6, 118), (7, 29)]⟩ (.node (.node (.node .nil 120 ⟨10, 152, [.str [], .int .i64 0, .nils, .nils, .int .i64 0, .int .i64 0, .nils, .int .i64 0, .int .i64 0, .nils], .struct [(0, 9), (1, 2), (2, 69), (3, 117), (4, 3), (5, 3), (6, 118), (7, 29)]⟩ .nil) 121 ⟨30, 400, [.int .i64 0, .int .i64 0, .int .i64 0, .int .i64 0, .int .i64 0, .int .i64 0, .int .i64 0, .int .i64 0, .int .i64 0, .nils, .int .i64 0, .int .i64 0, .nils, .nils, .nils, .nils, .str [], .int .i64 0, .str [], .int .i64 0, .nils, .nils, .int .i64 0, .int .i64 0, .nils, .int .i64 0, .int .i64 0, .nils, .int .i64 0, .int .i64 0], .struct [(0, 3), (1, 3), (2, 2), (3, 2), (4, 22), (5, 3), (6, 2), (7, 115), (9, 60), (10, 29), (13, 37), (14, 116), (15, 26), (16, 9), (17, 2), (18, 120), (28, 59)]⟩ .nil) 122 ⟨30, 400, [.int .i64 0, .int .i64 0, .int .i64 0, .int .i64 0, .int .i64 0, .int .i64 0, .int .i64 0, .int .i64 0, .int .i64 0, .nils, .int .i64 0, .int .i64 0, .nils, .nils, .nils, .nils, .str [], .int .i64 0, .str [], .int .i64 0, .nils, .nils, .int .i64 0, .int .i64 0, .nils, .int .i64 0, .int .i64 0, .nils, .int .i64 0, .int .i64 0], .struct [(0, 3), (1, 3), (2, 2), (3, 2), (4, 22), (5, 3), (6, 2), (7, 115), (9, 60), (10, 29), (13, 37), (14, 116), (15, 26), (16, 9), (17, 2), (18, 120), (28, 59)]⟩ (.node (.node .nil 123 ⟨1, 8, [.nilf], .other⟩ .nil) 124 ⟨1, 8, [.nilf], .other⟩ .nil)))) 125 ⟨1, 8, [.nilf], .other⟩ (.node (.node (.node (.node (.node .nil 126 ⟨1, 8, [.nilf], .other⟩ .nil) 127 ⟨1, 8, [.nilf], .other⟩ .nil) 128 ⟨1, 8, [.nilf], .other⟩ (.node (.node .nil 129 ⟨1, 8, [.nilf], .other⟩ .nil) 130 ⟨1, 8, [.nilf], .other⟩ .nil)) 131 ⟨1, 8, [.nilf], .other⟩ (.node (.node (.node .nil 132 ⟨1, 8, [.nilf], .other⟩ .nil) 133 ⟨1, 8, [.nilf], .other⟩ .nil) 134 ⟨1, 8, [.nilf], .other⟩ (.node (.node .nil 135 ⟨1, 8, [.nilf], .other⟩ .nil) 136 ⟨1, 8, [.nilf], .other⟩ .nil))) 137 ⟨1, 8, [.nilf], .other⟩ (.node (.node (.node (.node .nil 138 ⟨1, 8, [.nilf], .other⟩ .nil) 139 ⟨1, 8, [.nilf], .other⟩ .nil) 140 ⟨1, 8, [.nilf], .other⟩ (.node (.node .nil 141 ⟨1, 8, [.nilf], .other⟩ .nil) 142 ⟨1, 8, [.nilf], .other⟩ .nil)) 143 ⟨1, 8, [.nilf], .other⟩ (.node (.node (.node .nil 144 ⟨1, 8, [.nilf], .other⟩ .nil) 145 ⟨1, 8, [.nilf], .other⟩ .nil) 146 ⟨1, 8, [.nilf], .other⟩ (.node .nil 147 ⟨1, 8, [.nilf], .other⟩ .nil))))) 148 ⟨1, 8, [.nilf], .other⟩ (.node (.node (.node (.node (.node (.node .nil 149 ⟨1, 8, [.nilf], .other⟩ .nil) 150 ⟨1, 8, [.nilf], .other⟩ .nil) 151 ⟨1, 8, [.nilf], .other⟩ (.node (.node .nil 152 ⟨1, 8, [.nilf], .other⟩ .nil) 153 ⟨1, 8, [.nilf], .other⟩ .nil)) 154 ⟨1, 8, [.nilf], .other⟩ (.node (.node (.node .nil 155 ⟨1, 8, [.nilf], .other⟩ .nil) 156 ⟨1, 8, [.nilf], .other⟩ .nil) 157 ⟨1, 8, [.nilf], .other⟩ (.node (.node .nil 158 ⟨1, 8, [.nilf], .other⟩ .nil) 159 ⟨1, 8, [.nilf], .other⟩ .nil))) 160 ⟨1, 8, [.nilf], .other⟩ (.node (.node (.node (.node .nil 161 ⟨1, 8, [.nilf], .other⟩ .nil) 162 ⟨1, 8, [.nilf], .other⟩ .nil) 163 ⟨3, 40, [.nils, .int .i64 0, .bool false], .struct [(0, 26), (1, 47), (2, 4)]⟩ (.node (.node .nil 164 ⟨3, 40, [.nils, .int .i64 0, .bool false], .struct [(0, 26), (1, 47), (2, 4)]⟩ .nil) 165 ⟨1, 8, [.nilf], .other⟩ .nil)) 166 ⟨1, 8, [.nilf], .other⟩ (.node (.node (.node .nil 167 ⟨1, 8, [.nilf], .other⟩ .nil) 168 ⟨1, 8, [.nilf], .other⟩ .nil) 169 ⟨1, 8, [.nilf], .other⟩ (.node (.node .nil 170 ⟨1, 8, [.nilf], .other⟩ .nil) 171 ⟨1, 8, [.nilf], .other⟩ .nil)))) 172 ⟨1, 8, [.nilf], .other⟩ (.node (.node (.node (.node (.node .nil 173 ⟨1, 8, [.nilf], .other⟩ .nil) 174 ⟨1, 8, [.nilf], .other⟩ .nil) 175 ⟨1, 8, [.nilf], .other⟩ (.node (.node .nil 176 ⟨1, 8, [.nilf], .other⟩ .nil) 177 ⟨1, 8, [.nilf], .other⟩ .nil)) 178 ⟨1, 8, [.nilf], .other⟩ (.node (.node (.node .nil 179 ⟨1, 8, [.nilf], .other⟩ .nil) 180 ⟨1, 8, [.nilf], .other⟩ .nil) 181 ⟨1, 8, [.nilf], .other⟩ (.node (.node .nil 182 ⟨1, 8, [.nilf], .other⟩ .nil) 183 ⟨1, 8, [.nilf], .other⟩ .nil))) 184 ⟨1, 8, [.nilf], .other⟩ (.node (.node (.node (.node .nil 185 ⟨1, 8, [.nilf], .other⟩ .nil) 186 ⟨1, 8, [.nilf], .other⟩ .nil) 187 ⟨1, 8, [.nilf], .other⟩ (.node (.node .nil 188 ⟨1, 8, [.nilf], .other⟩ .nil) 189 ⟨1, 8, [.nilf], .other⟩ .nil)) 190 ⟨1, 8, [.nilf], .other⟩ (.node (.node (.node .nil 191 ⟨1, 8, [.nilf], .other⟩ .nil) 192 ⟨1, 8, [.nilf], .other⟩ .nil) 193 ⟨1, 8, [.nilf], .other⟩ (.node .nil 194 ⟨1, 8, [.nilf], .other⟩ .nil))))))) 195 ⟨1, 8, [.nilf], .other⟩ (.node (.node (.node (.node (.node (.node (.node (.node .nil 196 ⟨1, 8, [.nilf], .other⟩ .nil) 197 ⟨1, 8, [.nilf], .other⟩ .nil) 198 ⟨1, 8, [.nilf], .other⟩ (.node (.node .nil 199 ⟨1, 8, [.nilf], .other⟩ .nil) 200 ⟨1, 8, [.nilf], .other⟩ .nil)) 201 ⟨1, 8, [.nilf], .other⟩ (.node (.node (.node .nil 202 ⟨1, 8, [.nilf], .other⟩ .nil) 203 ⟨1, 8, [.nilf], .other⟩ .nil) 204 ⟨1, 8, [.nilf], .other⟩ (.node (.node .nil 205 ⟨1, 8, [.nilf], .other⟩ .nil) 206 ⟨1, 8, [.nilf], .other⟩ .nil))) 207 ⟨1, 8, [.nilf], .other⟩ (.node (.node (.node (.node .nil 208 ⟨1, 8, [.nilf], .other⟩ .nil) 209 ⟨1, 8, [.nilf], .other⟩ .nil) 210 ⟨1, 8, [.nilf], .other⟩ (.node (.node .nil 211 ⟨1, 8, [.nilf], .other⟩ .nil) 212 ⟨1, 8, [.nilf], .other⟩ .nil)) 213 ⟨1, 8, [.nilf], .other⟩ (.node (.node (.node .nil 214 ⟨1, 8, [.nilf], .other⟩ .nil) 215 ⟨1, 8, [.nilf], .other⟩ .nil) 216 ⟨1, 8, [.nilf], .other⟩ (.node (.node .nil 217 ⟨1, 8, [.nilf], .other⟩ .nil) 218 ⟨1, 8, [.nilf], .other⟩ .nil)))) 219 ⟨13, 112, [.int .i64 0, .int .i64 0, .int .i64 0, .int .i64 0, .int .i64 0, .int .i64 0, .int .i64 0, .int .i64 0, .int .i64 0, .int .i64 0, .str [], .int .i64 0, .int .i64 0], .struct [(0, 3), (1, 3), (2, 3), (3, 2), (4, 2), (5, 2), (6, 2), (7, 22), (8, 115), (10, 9), (11, 59)]⟩ (.node (.node (.node (.node (.node .nil 220 ⟨13, 112, [.int .i64 0, .int .i64 0, .int .i64 0, .int .i64 0, .int .i64 0, .int .i64 0, .int .i64 0, .int .i64 0, .int .i64 0, .int .i64 0, .str [], .int .i64 0, .int .i64 0], .struct [(0, 3), (1, 3), (2, 3), (3, 2), (4, 2), (5, 2), (6, 2), (7, 22), (8, 115), (10, 9), (11, 59)]⟩ .nil) 221 ⟨1, 8, [.nilf], .other⟩ .nil) 222 ⟨1, 8, [.nilf], .other⟩ (.node (.node .nil 223 ⟨1, 8, [.nilf], .other⟩ .nil) 224 ⟨5, 56, [.int .i64 0, .int .i64 0, .nils, .int .i64 0, .int .i64 0], .struct [(0, 2), (1, 2), (2, 60), (3, 59)]⟩ .nil)) 225 ⟨5, 56, [.int .i64 0, .int .i64 0, .nils, .int .i64 0, .int .i64 0], .struct [(0, 2), (1, 2), (2, 60), (3, 59)]⟩ (.node (.node (.node .nil 226 ⟨1, 8, [.nilf], .other⟩ .nil) 227 ⟨1, 8, [.nilf], .other⟩ .nil) 228 ⟨1, 8, [.nilf], .other⟩ (.node (.node .nil 229 ⟨1, 8, [.nilf], .other⟩ .nil) 230 ⟨1, 8, [.nilf], .other⟩ .nil))) 231 ⟨1, 8, [.nilf], .other⟩ (.node (.node (.node (.node .nil 232 ⟨1, 8, [.nilf], .other⟩ .nil) 233 ⟨1, 8, [.nilf], .other⟩ .nil) 234 ⟨1, 8, [.nilf], .other⟩ (.node (.node .nil 235 ⟨1, 8, [.nilf], .other⟩ .nil) 236 ⟨1, 24, [.nils], .slice 2⟩ .nil)) 237 ⟨1, 8, [.nilf], .other⟩ (.node (.node (.node .nil 238 ⟨1, 8, [.int .u64 0], .int .u64⟩ .nil) 239 ⟨1, 8, [.nilf], .other⟩ .nil) 240 ⟨1, 8, [.nilf], .other⟩ (.node .nil 241 ⟨1, 8, [.nilf], .other⟩ .nil))))) 242 ⟨1, 8, [.nilf], .other⟩ (.node (.node (.node (.node (.node (.node .nil 243 ⟨1, 8, [.nilf], .other⟩ .nil) 244 ⟨1, 8, [.nilf], .other⟩ .nil) 245 ⟨1, 8, [.nilf], .other⟩ (.node (.node .nil 246 ⟨1, 8, [.nilf], .other⟩ .nil) 247 ⟨1, 8, [.nilf], .other⟩ .nil)) 248 ⟨1, 8, [.nilf], .other⟩ (.node (.node (.node .nil 249 ⟨1, 8, [.nilf], .other⟩ .nil) 250 ⟨1, 8, [.nilf], .other⟩ .nil) 251 ⟨1, 8, [.nilf], .other⟩ (.node (.node .nil 252 ⟨1, 8, [.nilf], .other⟩ .nil) 253 ⟨1, 8, [.nilf], .other⟩ .nil))) 254 ⟨1, 8, [.nilf], .other⟩ (.node (.node (.node (.node .nil 255 ⟨1, 8, [.nilf], .other⟩ .nil) 256 ⟨1, 8, [.nilf], .other⟩ .nil) 257 ⟨1, 8, [.nilf], .other⟩ (.node (.node .nil 258 ⟨1, 8, [.nilf], .other⟩ .nil) 259 ⟨1, 8, [.nilf], .other⟩ .nil)) 260 ⟨1, 8, [.nilf], .other⟩ (.node (.node (.node .nil 261 ⟨1, 8, [.nilf], .other⟩ .nil) 262 ⟨1, 8, [.nilf], .other⟩ .nil) 263 ⟨1, 8, [.nilf], .other⟩ (.node (.node .nil 264 ⟨1, 8, [.nilf], .other⟩ .nil) 265 ⟨1, 8, [.nilf], .other⟩ .nil)))) 266 ⟨1, 8, [.nilf], .other⟩ (.node (.node (.node (.node (.node .nil 267 ⟨1, 8, [.nilf], .other⟩ .nil) 268 ⟨1, 8, [.nilf], .other⟩ .nil) 269 ⟨1, 8, [.nilf], .other⟩ (.node (.node .nil 270 ⟨1, 8, [.nilf], .other⟩ .nil) 271 ⟨1, 8, [.nilf], .other⟩ .nil)) 272 ⟨1, 8, [.nilf], .other⟩ (.node (.node (.node .nil 273 ⟨1, 8, [.nilf], .other⟩ .nil) 274 ⟨1, 8, [.nilf], .other⟩ .nil) 275 ⟨1, 8, [.nilf], .other⟩ (.node (.node .nil 276 ⟨1, 8, [.nilf], .other⟩ .nil) 277 ⟨1, 8, [.nilf], .other⟩ .nil))) 278 ⟨1, 8, [.nilf], .other⟩ (.node (.node (.node (.node .nil 280 ⟨1, 8, [.nilf], .other⟩ .nil) 281 ⟨1, 8, [.nilf], .other⟩ .nil) 282 ⟨1, 8, [.nilf], .other⟩ (.node (.node .nil 283 ⟨1, 8, [.nilf], .other⟩ .nil) 284 ⟨1, 8, [.nilf], .other⟩ .nil)) 285 ⟨1, 8, [.nilf], .other⟩ (.node (.node (.node .nil 286 ⟨1, 8, [.nilf], .other⟩ .nil) 287 ⟨1, 8, [.nilf], .other⟩ .nil) 290 ⟨1, 8, [.nilf], .other⟩ (.node .nil 291 ⟨1, 8, [.nilf], .other⟩ .nil)))))) 292 ⟨1, 8, [.nilf], .other⟩ (.node (.node (.node (.node (.node (.node (.node .nil 293 ⟨1, 8, [.nilp], .ptr⟩ .nil) 294 ⟨1, 24, [.nils], .struct [(0, 26)]⟩ .nil) 295 ⟨1, 24, [.nils], .struct [(0, 26)]⟩ (.node (.node .nil 296 ⟨1, 24, [.nils], .struct [(0, 295)]⟩ .nil) 297 ⟨1, 24, [.nils], .struct [(0, 295)]⟩ .nil)) 298 ⟨1, 8, [.nilf], .other⟩ (.node (.node (.node .nil 299 ⟨1, 8, [.nilf], .other⟩ .nil) 300 ⟨1, 8, [.nilf], .other⟩ .nil) 302 ⟨1, 8, [.nilf], .other⟩ (.node (.node .nil 304 ⟨1, 8, [.nilf], .other⟩ .nil) 305 ⟨1, 8, [.nilf], .other⟩ .nil))) 306 ⟨1, 8, [.nilp], .struct [(0, 91)]⟩ (.node (.node (.node (.node .nil 307 ⟨1, 8, [.nilf], .other⟩ .nil) 309 ⟨1, 8, [.nilf], .other⟩ .nil) 310 ⟨1, 8, [.nilf], .other⟩ (.node (.node .nil 312 ⟨1, 8, [.nilf], .other⟩ .nil) 313 ⟨1, 8, [.nilf], .other⟩ .nil)) 314 ⟨1, 8, [.nilf], .other⟩ (.node (.node (.node .nil 315 ⟨1, 8, [.nilf], .other⟩ .nil) 316 ⟨1, 8, [.nilf], .other⟩ .nil) 317 ⟨1, 8, [.nilf], .other⟩ (.node (.node .nil 318 ⟨1, 8, [.nilf], .other⟩ .nil) 319 ⟨1, 8, [.nilf], .other⟩ .nil)))) 320 ⟨1, 8, [.nilf], .other⟩ (.node (.node (.node (.node (.node .nil 321 ⟨1, 8, [.int .u64 0], .int .u64⟩ .nil) 322 ⟨1, 24, [.nils], .slice 84⟩ .nil) 323 ⟨1, 8, [.int .i64 0], .struct [(0, 47)]⟩ (.node (.node .nil 324 ⟨1, 8, [.int .i64 0], .struct [(0, 47)]⟩ .nil) 325 ⟨1, 8, [.nilf], .other⟩ .nil)) 326 ⟨1, 8, [.nilf], .other⟩ (.node (.node (.node .nil 327 ⟨1, 8, [.nilf], .other⟩ .nil) 328 ⟨1, 24, [.nils], .slice 3⟩ .nil) 330 ⟨1, 8, [.nilf], .other⟩ (.node (.node .nil 331 ⟨1, 8, [.nilf], .other⟩ .nil) 332 ⟨1, 8, [.nilf], .other⟩ .nil))) 333 ⟨1, 8, [.nilf], .other⟩ (.node (.node (.node (.node .nil 334 ⟨1, 8, [.nilf], .other⟩ .nil) 335 ⟨1, 8, [.nilf], .other⟩ .nil) 336 ⟨1, 8, [.nilf], .other⟩ (.node (.node .nil 337 ⟨1, 8, [.nilf], .other⟩ .nil) 338 ⟨1, 8, [.nilf], .other⟩ .nil)) 339 ⟨1, 8, [.nilp], .ptr⟩ (.node (.node (.node .nil 340 ⟨1, 8, [.nilf], .other⟩ .nil) 341 ⟨1, 8, [.nilf], .other⟩ .nil) 342 ⟨1, 8, [.nilf], .other⟩ (.node .nil 343 ⟨1, 8, [.nilf], .other⟩ .nil))))) 344 ⟨1, 8, [.nilf], .other⟩ (.node (.node (.node (.node (.node (.node .nil 345 ⟨1, 8, [.nilf], .other⟩ .nil) 346 ⟨1, 8, [.nilf], .other⟩ .nil) 347 ⟨1, 8, [.nilf], .other⟩ (.node (.node .nil 348 ⟨1, 8, [.nilf], .other⟩ .nil) 349 ⟨1, 8, [.nilf], .other⟩ .nil)) 350 ⟨1, 8, [.nilf], .other⟩ (.node (.node (.node .nil 351 ⟨1, 24, [.nils], .slice 47⟩ .nil) 352 ⟨1, 8, [.nilf], .other⟩ .nil) 353 ⟨1, 8, [.nilf], .other⟩ (.node (.node .nil 354 ⟨1, 8, [.nilf], .other⟩ .nil) 355 ⟨1, 8, [.nilf], .other⟩ .nil))) 356 ⟨1, 8, [.nilf], .other⟩ (.node (.node (.node (.node .nil 357 ⟨1, 8, [.nilf], .other⟩ .nil) 358 ⟨1, 8, [.nilf], .other⟩ .nil) 359 ⟨1, 8, [.nilf], .other⟩ (.node (.node .nil 360 ⟨1, 8, [.nilf], .other⟩ .nil) 361 ⟨1, 8, [.nilp], .ptr⟩ .nil)) 362 ⟨1, 8, [.nilp], .ptr⟩ (.node (.node (.node .nil 363 ⟨1, 8, [.nilf], .other⟩ .nil) 364 ⟨1, 8, [.nilf], .other⟩ .nil) 365 ⟨1, 8, [.nilf], .other⟩ (.node (.node .nil 366 ⟨1, 8, [.nilf], .other⟩ .nil) 367 ⟨1, 8, [.nilf], .other⟩ .nil)))) 368 ⟨1, 8, [.nilf], .other⟩ (.node (.node (.node (.node (.node .nil 369 ⟨1, 8, [.nilf], .other⟩ .nil) 370 ⟨1, 8, [.nilf], .other⟩ .nil) 371 ⟨1, 8, [.nilf], .other⟩ (.node (.node .nil 372 ⟨1, 8, [.nilf], .other⟩ .nil) 373 ⟨1, 8, [.nilf], .other⟩ .nil)) 375 ⟨1, 8, [.nilf], .other⟩ (.node (.node (.node .nil 376 ⟨1, 8, [.nilf], .other⟩ .nil) 378 ⟨1, 8, [.nilf], .other⟩ .nil) 379 ⟨1, 8, [.nilf], .other⟩ (.node (.node .nil 380 ⟨1, 8, [.nilf], .other⟩ .nil) 381 ⟨1, 8, [.nilf], .other⟩ .nil))) 382 ⟨1, 8, [.nilf], .other⟩ (.node (.node (.node (.node .nil 384 ⟨1, 8, [.nilf], .other⟩ .nil) 385 ⟨1, 8, [.nilf], .other⟩ .nil) 391 ⟨1, 4, [.int .u32 0], .int .u32⟩ (.node (.node .nil 392 ⟨1, 1, [.int .u8 0], .int .u8⟩ .nil) 393 ⟨1, 1, [.int .u8 0], .int .u8⟩ .nil)) 394 ⟨1, 8, [.nilf], .other⟩ (.node (.node (.node .nil 395 ⟨1, 8, [.nilp], .ptr⟩ .nil) 396 ⟨1, 4, [.int .i32 0], .int .i32⟩ .nil) 397 ⟨1, 4, [.int .i32 0], .int .i32⟩ (.node .nil 400 ⟨1, 8, [.nilp], .other⟩ .nil))))))))
def ttAll (p : Nat → TyI → Bool) : TT → Bool
  | .nil => true
  | .node l t i r => ttAll p l && (p t i && ttAll p r)
theorem look_all {p : Nat → TyI → Bool} : ∀ {tb : TT} {t : Nat} {i : TyI}, ttAll p tb = true → tb.look t = some i → p t i = true
  | .nil, _, _, _, h => by simp [TT.look] at h
  | .node l t' i' r, t, i, ha, h => by
    simp only [ttAll, Bool.and_eq_true] at ha
    simp only [TT.look] at h
    cases hb : Nat.beq t t' with
    | true =>
      rw [hb] at h
      injection h with h
      subst h
      cases Nat.eq_of_beq_eq_true hb
      exact ha.2.1
    | false =>
      rw [hb] at h
      cases hl : Nat.blt t t' with
      | true => rw [hl] at h; exact look_all ha.1 h
      | false => rw [hl] at h; exact look_all ha.2.2 h
def deq : D → D → Bool
  | .bool a, .bool b => a == b
  | .int k a, .int l b => k == l && a == b
  | .str [], .str [] => true
  | .nils, .nils => true
  | .nilp, .nilp => true
  | .nilf, .nilf => true
  | .nilm, .nilm => true
  | _, _ => false
theorem deq_ok {a b : D} (h : deq a b = true) : a = b := by
  unfold deq at h
  split at h <;> simp_all
def zeroB : List Value → List D → Bool
  | [], [] => true
  | v :: vs, d :: ds => (match zD v with | some e => deq e d | none => false) && zeroB vs ds
  | _, _ => false
theorem zeroB_ok : ∀ (vs : List Value) (ds : List D), zeroB vs ds = true → zeroOk vs ds
  | [], [], _ => trivial
  | v :: vs, d :: ds, h => by
    simp only [zeroB, Bool.and_eq_true] at h
    refine ⟨?_, zeroB_ok vs ds h.2⟩
    cases hz : zD v with
    | none => rw [hz] at h; cases h.1
    | some e => rw [hz] at h; rw [deq_ok h.1]
  | [], _ :: _, h => by simp [zeroB] at h
  | _ :: _, [], h => by simp [zeroB] at h
def tyB (P : Program) (t : Nat) (i : TyI) : Bool :=
  match P.info? t with
  | some inf => inf.size == i.size && inf.bytes == i.bytes && (kdOk P t i.kind && (!i.kind.isRow || eqOkB P t)) && (match inf.zero with
    | some z => zeroB z.cells.toList i.zero && z.cells.size == i.size && ((match z with | .agg _ => true | _ => false) == i.kind.isRow)
    | none => false)
  | none => false
theorem tyB_ok {P : Program} {t : Nat} {i : TyI} (h : tyB P t i = true) : i.ok P t := by
  unfold tyB at h
  split at h
  · rename_i inf hi
    simp only [Bool.and_eq_true, beq_iff_eq] at h
    obtain ⟨⟨⟨h1, h2⟩, h3, h5⟩, h4⟩ := h
    split at h4
    · rename_i z hz
      simp only [Bool.and_eq_true, beq_iff_eq] at h4
      obtain ⟨⟨k1, k2⟩, k3⟩ := h4
      refine ⟨⟨inf, z, hi, h1, h2, hz, zeroB_ok _ _ k1, k2, ?_⟩, h3, fun hr => by simpa [hr] using h5⟩
      rw [← k3]
      cases z <;> simp
    · cases h4
  · cases h
theorem tyTab_ok : tyTab.ok Tryz.prog := fun t i h => tyB_ok (look_all (p := tyB Tryz.prog) (by kernel_rfl) h)
end Go.Proofs.YteaggenihhaajaaGreat

/- Walks computed: the walk once more, by the recursors alone: so it unfolds in one way only, and two readings of a term meet at once. No program here. -/
namespace Go.Proofs.YteaggenihhaajaaGreat
open Go.RowKit
set_option linter.unusedVariables false

noncomputable def xR (E : En) (ops l : List Oper) : S → (S → T) → T :=
  List.rec (motive := fun _ => S → (S → T) → T) (fun s k => k s) (fun o _ ih s k => execG E ops o s (fun s' => ih s' k)) l
theorem xR_eq (E : En) (ops : List Oper) : ∀ (l : List Oper) (s : S) (k : S → T), xR E ops l s k = execR E ops l s k
  | [], s, k => rfl
  | o :: r, s, k => by
    show execG E ops o s (fun s' => xR E ops r s' k) = execG E ops o s (fun s' => execR E ops r s' k)
    rw [show (fun s' => xR E ops r s' k) = fun s' => execR E ops r s' k from funext fun s' => xR_eq E ops r s' k]
/-- a region that draws -/
noncomputable def xA (E : En) (ops : List Oper) (hr : List AO) (md : List Nat) (pl : PT) : Bool → S → (S → T) → T :=
  PT.rec (motive := fun _ => Bool → S → (S → T) → T) (fun _ s k => k s) (fun i al _ ih gr s k => runA E ops hr md i al gr (fun g s' => ih g s' k) s)
    (fun i _ _ iha ihr gr s k => .both (runA E ops hr md i true gr (fun g s' => iha g s' k) s) (ihr gr s k)) pl
theorem xA_eq (E : En) (ops : List Oper) (hr : List AO) (md : List Nat) (pl : PT) : ∀ (gr : Bool) (s : S) (k : S → T), xA E ops hr md pl gr s k = execA E ops hr md pl gr s k := by
  induction pl with
  | done => exact fun _ _ _ => rfl
  | one i al r ih =>
    intro gr s k
    show runA E ops hr md i al gr (fun g s' => xA E ops hr md r g s' k) s = runA E ops hr md i al gr (fun g s' => execA E ops hr md r g s' k) s
    rw [show (fun g s' => xA E ops hr md r g s' k) = fun g s' => execA E ops hr md r g s' k from funext fun g => funext fun s' => ih g s' k]
  | alt i a r iha ihr =>
    intro gr s k
    show T.both (runA E ops hr md i true gr (fun g s' => xA E ops hr md a g s' k) s) (xA E ops hr md r gr s k) = T.both (runA E ops hr md i true gr (fun g s' => execA E ops hr md a g s' k) s) (execA E ops hr md r gr s k)
    rw [show (fun g s' => xA E ops hr md a g s' k) = fun g s' => execA E ops hr md a g s' k from funext fun g => funext fun s' => iha g s' k, ihr]
noncomputable def xC (E : En) (m : Nat) (PL : List (Nat × PlanT)) (c : Code) : S → (Exit → S → T) → T :=
  Code.rec (motive := fun _ => S → (Exit → S → T) → T)
    (fun s K => K .normal s)
    (fun id ops dr s K => match dr with
      | false => xR E ops.toList ops.toList s (K .normal)
      | true => .ask ((planOk ops (planOf PL id ops.toList s).t (Array.replicate ops.size false) false && (Region.noSelect ops && Nat.ble (planOf PL id ops.toList s).t.depth ops.size)) = true)
        (xA E ops.toList s.h (planOf PL id ops.toList s).md (planOf PL id ops.toList s).t false s (K .normal)))
    (fun _ _ a b s K => a s fun e s' => match e with
      | .normal => b s' K
      | e => K e s')
    (fun c _ _ a b s K => match ev s c with
      | .bool v => .br v (a s K) (b s K)
      | _ => .fail 70)
    (fun id _ c s K => c s fun e s' => match e with
      | .exit id' => bif Nat.beq id' id then K .normal s' else K (.exit id') s'
      | e => K e s')
    (fun _ c s K => .loop m s (fun s' => c s' .leaf) K)
    (fun _ _ _ _ _ _ _ _ => .fail 71)
    (fun id s K => K (.exit id) s)
    (fun _ _ _ _ => .fail 71)
    (fun _ _ _ => .fail 71)
    (fun _ _ _ => .fail 71)
    (fun s K => K .ret s)
    (fun _ _ _ => .fail 71) c
theorem xC_eq [Wd] (E : En) (m : Nat) (PL : List (Nat × PlanT)) : ∀ (c : Code) (s : S) (K : Exit → S → T), xC E m PL c s K = execC E m PL c s K
  | .skip, s, K => rfl
  | .region id ops false, s, K => xR_eq E ops.toList ops.toList s (K .normal)
  | .region id ops true, s, K => by
    show T.ask _ (xA E ops.toList s.h (planOf PL id ops.toList s).md (planOf PL id ops.toList s).t false s (K .normal)) = _
    rw [xA_eq]
    rfl
  | .seq a b, s, K => by
    show xC E m PL a s (fun e s' => match e with
      | .normal => xC E m PL b s' K
      | e => K e s') = _
    rw [xC_eq E m PL a]
    show _ = execC E m PL a s (fun e s' => match e with
      | .normal => execC E m PL b s' K
      | e => K e s')
    congr 1
    funext e s'
    cases e <;> first | exact xC_eq E m PL b s' K | rfl
  | .cond c a b, s, K => by
    show (match ev s c with
      | .bool v => .br v (xC E m PL a s K) (xC E m PL b s K)
      | _ => .fail 70 : T) = _
    rw [xC_eq E m PL a, xC_eq E m PL b]
    rfl
  | .block id c, s, K => xC_eq E m PL c s _
  | .loop c, s, K => by
    show T.loop m s (fun s' => xC E m PL c s' .leaf) K = _
    rw [show (fun s' => xC E m PL c s' .leaf) = fun s' => execC E m PL c s' .leaf from funext fun s' => xC_eq E m PL c s' .leaf]
    rfl
  | .exit id, s, K => rfl
  | .ret, s, K => rfl
  | .rangeFunc _ _ _ _, s, K => rfl
  | .scope _, s, K => rfl
  | .label _, s, K => rfl
  | .goto _, s, K => rfl
  | .refuse _, s, K => rfl
end Go.Proofs.YteaggenihhaajaaGreat

/- The rule for this program's functions; elder contracts as data. -/
namespace Go.Proofs.YteaggenihhaajaaGreat
open Go.RowKit
set_option linter.unusedVariables false

theorem mkT' [Wd] (dt : Bool) {f : FuncId} {fn : Func} {c : Code} {ar : List D} {h : List AO} {Post : D → List AO → Prop} (n : Nat) (PL : List (Nat × PlanT)) (hf : Tryz.prog.funcs[f]? = some fn) (hb : fn.body = some c) (hn : (Nat.beq fn.ntmps n && (Nat.ble ar.length n && calleeOk Tryz.prog f)) = true)
    (hx : (xC ⟨tyTab, n, dt⟩ h.length PL c ⟨argT 0 ar, h⟩ .leaf).ok Tryz.prog (Lf tyTab fn.results.toList h Post)) : FnS Tryz.prog f ar h Post := by
  simp only [Bool.and_eq_true] at hn
  rw [xC_eq] at hx
  exact FnS.of_exec (E := ⟨tyTab, n, dt⟩) hf hb (Nat.eq_of_beq_eq_true hn.1) tyTab_ok (by kernel_rfl) hn.2.2 rfl (Nat.le_of_ble_eq_true hn.2.1) hx
/-- by plans with orders beside one another -/
theorem mkT [Wd] {f : FuncId} {fn : Func} {c : Code} {ar : List D} {h : List AO} {Post : D → List AO → Prop} (n : Nat) (PL : List (Nat × PlanT)) (hf : Tryz.prog.funcs[f]? = some fn) (hb : fn.body = some c) (hn : (Nat.beq fn.ntmps n && (Nat.ble ar.length n && calleeOk Tryz.prog f)) = true)
    (hx : (xC ⟨tyTab, n, true⟩ h.length PL c ⟨argT 0 ar, h⟩ .leaf).ok Tryz.prog (Lf tyTab fn.results.toList h Post)) : FnS Tryz.prog f ar h Post := mkT' true n PL hf hb hn hx
def plans : List (Nat × Plan) → List (Nat × PlanT)
  | [] => []
  | (i, p) :: r => (i, p.t) :: plans r
theorem mkS [Wd] {f : FuncId} {fn : Func} {c : Code} {ar : List D} {h : List AO} {Post : D → List AO → Prop} (n : Nat) (PL : List (Nat × Plan)) (hf : Tryz.prog.funcs[f]? = some fn) (hb : fn.body = some c) (hn : (Nat.beq fn.ntmps n && (Nat.ble ar.length n && calleeOk Tryz.prog f)) = true)
    (hx : (xC ⟨tyTab, n, true⟩ h.length (plans PL) c ⟨argT 0 ar, h⟩ .leaf).ok Tryz.prog (Lf tyTab fn.results.toList h Post)) : FnS Tryz.prog f ar h Post := mkT' true n (plans PL) hf hb hn hx
/-- of the world nothing is asked -/
instance wd0 : Wd := ⟨fun _ _ => True, fun _ _ _ => trivial⟩
theorem FnS.old [Wd] {P : Program} {f : FuncId} {ar : List D} {r : D} {v : Value} (hv : ∀ I w, Dr I w v r) (hcal : calleeOk P f = true) (h : ∀ w I vs, Drs I w vs ar → Calls P f vs.toArray w fun e w' => e = .returned v ∧ B w w') (hp : pureD.pl ar = true) : FnS P f ar [] (fun r' h' => r' = r ∧ h' = []) := by
  refine ⟨hcal, fun w I g vs _ hd ha => (h w I vs (pureL_ok ha hp)).mono ?_⟩
  rintro e w' ⟨rfl, hb⟩
  have hg : g = [] := List.eq_nil_of_length_eq_zero hd.len
  subst hg
  exact ⟨v, I, [], r, [], rfl, ⟨rfl, rfl⟩, hd.later hb, .rd (hv I w'), Ext.of_B hb, fun _ h => h, fun _ h => .inl h, fun b h => .inl h, fun o p t cs _ h => by simp at h⟩
/-- an elder contract over a reading -/
theorem FnP.ofT [Wd] {P : Program} {f : FuncId} {α : Type} {T : Ty α} {A : Dt α} (L : Lk T A) {a : α} (ok : A.ok a) {v : Value} {r : D} (hv : ∀ I w, Dr I w v r) (hcal : calleeOk P f = true) (hp : pureD.pl (A.c a) = true) (h : ∀ {inn : Nat → Prop} {w : World} {cs : List Value}, T.rd inn w cs a → Calls P f #[.agg cs.toArray] w fun e w' => e = .returned v ∧ B w w') : FnP P f [.agg (A.c a)] r :=
  FnS.old hv hcal (fun w I vs hd => by
    obtain ⟨u, rfl, h1⟩ := hd.one_inv
    obtain ⟨us, rfl, k1, k2⟩ := (Vr.rd (g := []) h1).agg_inv
    exact h (L.of (pureL_ok k1 hp) ok)) (by simp only [pureD.pl, pureD, hp]; rfl)
end Go.Proofs.YteaggenihhaajaaGreat

/- The asker of package message: it keeps the first error. Its small methods, names, signatures, certificates. -/
namespace Go.Proofs.YteaggenihhaajaaGreat
open Go.RowKit
set_option linter.unusedVariables false
set_option maxRecDepth 20000

theorem w64 {e : Int} (h1 : -9223372036854775808 ≤ e) (h2 : e ≤ 9223372036854775807) : IntKind.i64.wrap e = e := by
  simp only [IntKind.wrap, IntKind.signed, IntKind.bits]
  simp
  omega
theorem listE_at {α : Type} (f : α → Int) {l : List α} {q : Nat} {x : α} (h : l[q]? = some x) : listE f (l.take (q + 1)) = orE (listE f (l.take q)) (f x) := by
  rw [List.take_add_one, h]
  exact listE_snoc f _ x
/-- the asker, with its first error -/
abbrev oAsk (e : Int) : List AO := [.cells 324 [.int .i64 e]]
abbrev FnAsk [Wd] (f : FuncId) (ar : List D) (x : Int) : Prop := ∀ e : Int, FnS Tryz.prog f (.ptr 0 0 :: ar) (oAsk e) (fun r h => r = .tup [] ∧ h = oAsk (orE e x))
section
variable {Q : Exit → S → Prop}
/-- the asker is asked -/
theorem okAskr [Wd] {f : FuncId} {ar ar' : List D} {x e : Int} {hb : List AO} {c : D → List AO → T} (o : Nat) (hF : FnAsk f ar x) (hv : vwP hb [o] [o] (oAsk e)) (hc : Cos ar' (D.ren.rl [o] (.ptr 0 0 :: ar))) (hM : ([o].all fun o => (foot hb ar').elem o) = true) (k : (c (.tup []) (upH hb [o] (oAsk e) (oAsk (orE e x)))).ok Tryz.prog Q) : (T.call f ar' hb c).ok Tryz.prog Q :=
  okCall [o] (hF e) (.mk' rfl hv) hc hM k
theorem endAsk [Wd] {tb : TT} {rs : List ResultVar} {ex : Exit} {s : S} {e e' : Int} {ds : List D} (σ : List Nat) (he : ex = .normal ∨ ex = .ret) (hr : resD tb s rs = some ds) (hn : nodupB σ = true) (hv : vwP s.h σ σ (oAsk e')) (hk : keepP 0 (oAsk e) σ (oAsk e')) (hco : Co (resV ds) (.tup [])) {x : Int} (hx : e' = orE e x) : (T.leaf ex s).ok Tryz.prog (Lf tb rs (oAsk e) (fun r h => r = .tup [] ∧ h = oAsk (orE e x))) := by
  subst hx
  exact endObj σ he hr hn hv hk hco
end
theorem says_s [Wd] (x : Int) : FnAsk 305 [.int .i64 x] x := by
  intro e
  refine mkS 13 [] Tryz.func305 rfl (by kernel_rfl) ?_
  repeat' ((conv => arg 2; whnf); first | refine okBrT ?_ | refine okBrF ?_ | refine okBr (fun h => ?_) (fun h => ?_) | refine endAsk [0] (.inl rfl) rfl rfl ⟨⟨rfl, rfl⟩, trivial⟩ ⟨⟨rfl, rfl⟩, trivial⟩ (.refl _) ?_)
  all_goals simp_all [orE]
theorem ask_s [Wd] (n a b : Int) : FnAsk 311 [.int .i64 n, .int .i64 a, .int .i64 b] (rangeE n a b) := by
  intro e
  refine mkS 18 [] Tryz.func311 rfl (by kernel_rfl) ?_
  repeat' ((conv => arg 2; whnf); first | refine okBrT ?_ | refine okBrF ?_ | refine okBr (fun h => ?_) (fun h => ?_) | refine okAskr 0 (says_s _) ⟨⟨rfl, rfl⟩, trivial⟩ (Cos.refl _) rfl ?_ | refine endAsk [0] (.inl rfl) rfl rfl ⟨⟨rfl, rfl⟩, trivial⟩ ⟨⟨rfl, rfl⟩, trivial⟩ (.refl _) ?_)
  all_goals simp_all [rangeE]
  all_goals (split <;> first | rfl | omega | (rw [orE_z]))
theorem askNum_s [Wd] (n : Int) : FnAsk 304 [.int .i64 n] (numE n) := by
  intro e
  refine mkS 7 [] Tryz.func304 rfl (by kernel_rfl) ?_
  repeat' ((conv => arg 2; whnf); first | refine okAskr 0 (ask_s _ _ _) ⟨⟨rfl, rfl⟩, trivial⟩ (Cos.refl _) rfl ?_ | exact endAsk [0] (.inl rfl) rfl rfl ⟨⟨rfl, rfl⟩, trivial⟩ ⟨⟨rfl, rfl⟩, trivial⟩ (.refl _) rfl)
theorem askPos_s [Wd] (n : Int) : FnAsk 307 [.int .i64 n] (posE n) := by
  intro e
  refine mkS 7 [] Tryz.func307 rfl (by kernel_rfl) ?_
  repeat' ((conv => arg 2; whnf); first | refine okAskr 0 (ask_s _ _ _) ⟨⟨rfl, rfl⟩, trivial⟩ (Cos.refl _) rfl ?_ | exact endAsk [0] (.inl rfl) rfl rfl ⟨⟨rfl, rfl⟩, trivial⟩ ⟨⟨rfl, rfl⟩, trivial⟩ (.refl _) rfl)
theorem askBroker_s [Wd] (n : Int) : FnAsk 308 [.int .i64 n] (brokE n) := by
  intro e
  refine mkS 7 [] Tryz.func308 rfl (by kernel_rfl) ?_
  repeat' ((conv => arg 2; whnf); first | refine okAskr 0 (ask_s _ _ _) ⟨⟨rfl, rfl⟩, trivial⟩ (Cos.refl _) rfl ?_ | exact endAsk [0] (.inl rfl) rfl rfl ⟨⟨rfl, rfl⟩, trivial⟩ ⟨⟨rfl, rfl⟩, trivial⟩ (.refl _) rfl)
theorem askMany_s [Wd] (n m : Int) : FnAsk 309 [.int .i64 n, .int .i64 m] (rangeE n 0 m) := by
  intro e
  refine mkS 10 [] Tryz.func309 rfl (by kernel_rfl) ?_
  repeat' ((conv => arg 2; whnf); first | refine okAskr 0 (ask_s _ _ _) ⟨⟨rfl, rfl⟩, trivial⟩ (Cos.refl _) rfl ?_ | exact endAsk [0] (.inl rfl) rfl rfl ⟨⟨rfl, rfl⟩, trivial⟩ ⟨⟨rfl, rfl⟩, trivial⟩ (.refl _) rfl)
/-- request.CheckSign -/
theorem cSign_s [Wd] (s : SignD) : FnP Tryz.prog 221 [.agg (cSign s)] (.int .i64 (signE s)) := by
  refine mkS 21 [] Tryz.func221 rfl (by kernel_rfl) ?_
  repeat' ((conv => arg 2; whnf); first | refine okBrT ?_ | refine okBrF ?_ | refine okBr (fun h => ?_) (fun h => ?_) | refine endInt (.inr rfl) rfl ?_)
  all_goals simp_all [signE]
  all_goals omega
theorem askSigns_s [Wd] (l : List SignD) (hl : l.length ≤ 4194304) : FnAsk 306 [.list 2 (l.map cSign)] (signsE l) := by
  intro e
  refine mkS 21 [] Tryz.func306 rfl (by kernel_rfl) ?_
  repeat' ((conv => arg 2; whnf); first | refine okAskr 0 (askMany_s _ _) ⟨⟨rfl, rfl⟩, trivial⟩ (Cos.refl _) rfl ?_ )
  refine okLoop (α := Nat × Int) (fun a => ⟨[(12, .int .i64 a.1), (11, .int .i64 (l.map cSign).length), (10, .list 2 (l.map cSign)), (0, .ptr 0 0)], oAsk a.2⟩) (fun a => a.1 ≤ l.length ∧ a.2 = orE (orE e (manyE l.length 13)) (listE signE (l.take a.1))) (fun a => l.length - a.1) (0, _) ⟨Nat.zero_le _, by simp [listE, orE_z, manyE]; rfl⟩ (Sv.mk' [0] rfl ⟨⟨rfl, rfl⟩, trivial⟩ ⟨rfl, rfl, rfl, rfl, trivial⟩) ?_
  rintro ⟨q, e'⟩ ⟨hq, he⟩
  repeat'
    (conv => arg 2; whnf)
    first
    | refine okBrT ?_
    | refine okBrF ?_
    | refine okBr (fun h => ?_) (fun h => ?_)
    | refine okNthMap (by simpa using h) (fun x hx => ?_)
    | refine okFn (cSign_s x) rfl (Cos.refl _) ?_
    | refine okAskr 0 (says_s _) ⟨⟨rfl, rfl⟩, trivial⟩ (Cos.refl _) rfl ?_
    | refine okWrap (w64 (by simp at h hq; omega) (by simp at h hq; omega)) ?_
    | refine okAgain (q + 1, _) (Sv.mk' [0] rfl ⟨⟨rfl, rfl⟩, trivial⟩ ⟨rfl, rfl, rfl, rfl, trivial⟩) ⟨?_, ?_⟩ ?_
    | refine okOut ?_
    | refine endAsk [0] (.inl rfl) rfl rfl ⟨⟨rfl, rfl⟩, trivial⟩ ⟨⟨rfl, rfl⟩, trivial⟩ (.refl _) ?_
  · show q + 1 ≤ l.length
    simp at h; omega
  · show orE e' (signE x) = _
    rw [listE_at signE hx, ← orE_assoc, ← he]
  · simp at h ⊢; omega
  · rw [he, show l.take q = l from List.take_of_length_le (by simp at h; omega), signsE, orE_assoc]
end Go.Proofs.YteaggenihhaajaaGreat

/- Which bytes, operations, batches, messages are the same, over data (printed by gen_aq.py). -/
namespace Go.Proofs.YteaggenihhaajaaGreat
open Go.RowKit
set_option linter.unusedVariables false
set_option maxRecDepth 20000

theorem beqE {α : Type} [DecidableEq α] (a b : α) : (a == b) = eqB a b := by
  by_cases h : a = b
  · rw [eqB_true h]; simp [h]
  · rw [eqB_false h]; simp [h]
theorem decE {α : Type} [DecidableEq α] (a b : α) : decide (a = b) = eqB a b := beqE a b
theorem eqB_len {α : Type} {l k : List α} (h : ¬ l.length = k.length) : eqB l k = false := eqB_false (fun e => h (by rw [e]))
theorem eqB_all {α : Type} {l k : List α} {q : Nat} (hl : l.length = k.length) (hq : ¬ q < l.length) (he : l.take q = k.take q) : eqB l k = true := by
  refine eqB_true ?_
  rw [List.take_of_length_le (by omega), List.take_of_length_le (by omega)] at he
  exact he
theorem eqB_no {α : Type} {l k : List α} {q : Nat} {x y : α} (hx : l[q]? = some x) (hy : k[q]? = some y) (h : eqB x y = false) : eqB l k = false := by
  refine eqB_false (fun e => ?_)
  subst e
  rw [hx] at hy
  injection hy with hy
  rw [eqB_true hy] at h
  cases h
theorem eqB_go {α : Type} {l k : List α} {q : Nat} {x y : α} (hx : l[q]? = some x) (hy : k[q]? = some y) (h : eqB x y = true) (he : l.take q = k.take q) : l.take (q + 1) = k.take (q + 1) := by
  rw [List.take_add_one, List.take_add_one, hx, hy, he, eqB_iff.1 h]
theorem sign_eqB (a b : SignD) : ((a.key == b.key) && (a.digest == b.digest)) = eqB a b := by
  cases a; cases b
  rw [Bool.eq_iff_iff, eqB_iff]; simp
theorem head_eqB (a b : HeaderD) : (((((a.seq == b.seq) && (a.prev == b.prev)) && (a.batch == b.batch)) && (a.root == b.root)) && (a.state == b.state)) = eqB a b := by
  cases a; cases b
  rw [Bool.eq_iff_iff, eqB_iff]; simp [and_assoc]
theorem op_eqB (a b : OpD) : eqB a b = ((a.kind == b.kind) && decide (a.topic = b.topic) && decide (a.group = b.group) && (a.offset == b.offset) && eqB a.records b.records) := by
  obtain ⟨a0, a1, a2, a3, a4⟩ := a
  obtain ⟨b0, b1, b2, b3, b4⟩ := b
  rw [Bool.eq_iff_iff, eqB_iff]
  simp [eqB_iff, and_assoc]
theorem request_eqB (a b : RequestD) : eqB a b = ((a.client == b.client) && (a.time == b.time) && eqB a.op b.op) := by
  obtain ⟨a0, a1, a2⟩ := a
  obtain ⟨b0, b1, b2⟩ := b
  rw [Bool.eq_iff_iff, eqB_iff]
  simp [eqB_iff, and_assoc]
theorem signed_eqB (a b : SignedD) : eqB a b = (eqB a.request b.request && (a.sign.key == b.sign.key) && (a.sign.digest == b.sign.digest)) := by
  obtain ⟨a0, ⟨a1key, a1digest⟩⟩ := a
  obtain ⟨b0, ⟨b1key, b1digest⟩⟩ := b
  rw [Bool.eq_iff_iff, eqB_iff]
  simp [eqB_iff, and_assoc]
theorem cert_eqB (a b : CertD) : eqB a b = ((a.seq == b.seq) && (a.digest == b.digest) && eqB a.signs b.signs) := by
  obtain ⟨a0, a1, a2⟩ := a
  obtain ⟨b0, b1, b2⟩ := b
  rw [Bool.eq_iff_iff, eqB_iff]
  simp [eqB_iff, and_assoc]
theorem prepared_eqB (a b : PreparedD) : eqB a b = ((a.view == b.view) && (a.seq == b.seq) && (a.digest == b.digest) && (a.firstS.key == b.firstS.key) && (a.firstS.digest == b.firstS.digest) && eqB a.signs b.signs && eqB a.batch b.batch) := by
  obtain ⟨a0, a1, a2, ⟨a3key, a3digest⟩, a4, a5⟩ := a
  obtain ⟨b0, b1, b2, ⟨b3key, b3digest⟩, b4, b5⟩ := b
  rw [Bool.eq_iff_iff, eqB_iff]
  simp [eqB_iff, and_assoc]
theorem change_eqB (a b : ChangeD) : eqB a b = ((a.view == b.view) && (a.src == b.src) && eqB a.cert b.cert && eqB a.above b.above && (a.sign.key == b.sign.key) && (a.sign.digest == b.sign.digest)) := by
  obtain ⟨a0, a1, a2, a3, ⟨a4key, a4digest⟩⟩ := a
  obtain ⟨b0, b1, b2, b3, ⟨b4key, b4digest⟩⟩ := b
  rw [Bool.eq_iff_iff, eqB_iff]
  simp [eqB_iff, and_assoc]
theorem entry_eqB (a b : EntryD) : eqB a b = ((a.view == b.view) && (a.seq == b.seq) && eqB a.batch b.batch && (a.sign.key == b.sign.key) && (a.sign.digest == b.sign.digest)) := by
  obtain ⟨a0, a1, a2, ⟨a3key, a3digest⟩⟩ := a
  obtain ⟨b0, b1, b2, ⟨b3key, b3digest⟩⟩ := b
  rw [Bool.eq_iff_iff, eqB_iff]
  simp [eqB_iff, and_assoc]
theorem proof_eqB (a b : ProofD) : eqB a b = (decide (a.topic = b.topic) && (a.offset == b.offset) && eqB a.record b.record && eqB a.headers b.headers && (a.index == b.index) && (a.count == b.count) && eqB a.path b.path && eqB a.cert b.cert) := by
  obtain ⟨a0, a1, a2, a3, a4, a5, a6, a7⟩ := a
  obtain ⟨b0, b1, b2, b3, b4, b5, b6, b7⟩ := b
  rw [Bool.eq_iff_iff, eqB_iff]
  simp [eqB_iff, and_assoc]
theorem msg_eqB (a b : MsgD) : eqB a b = ((a.kind == b.kind) && (a.src == b.src) && (a.view == b.view) && (a.seq == b.seq) && (a.digest == b.digest) && (a.client == b.client) && (a.time == b.time) && (a.result.err == b.result.err) && (a.result.offset == b.result.offset) && eqB a.batch b.batch && eqB a.cert b.cert && eqB a.changes b.changes && eqB a.entries b.entries && eqB a.state b.state && decide (a.topic = b.topic) && (a.offset == b.offset) && eqB a.proof b.proof && (a.sign.key == b.sign.key) && (a.sign.digest == b.sign.digest)) := by
  obtain ⟨a0, a1, a2, a3, a4, a5, a6, ⟨a7err, a7offset⟩, a8, a9, a10, a11, a12, a13, a14, a15, ⟨a16key, a16digest⟩⟩ := a
  obtain ⟨b0, b1, b2, b3, b4, b5, b6, ⟨b7err, b7offset⟩, b8, b9, b10, b11, b12, b13, b14, b15, ⟨b16key, b16digest⟩⟩ := b
  rw [Bool.eq_iff_iff, eqB_iff]
  simp [eqB_iff, and_assoc]
theorem bEq_s [Wd] (a b : List UInt8) (ha : a.length ≤ 4194304) (hb : b.length ≤ 4194304) : FnP Tryz.prog 11 [.list 1 (a.map cByte), .list 1 (b.map cByte)] (.bool (eqB a b)) := by
  refine mkS 10 [] Tryz.func11 rfl (by kernel_rfl) ?_
  repeat'
    (conv => arg 2; whnf)
    first
    | refine okByts a rfl ?_
    | refine okByts b rfl ?_
    | refine okAsk (by omega) ?_
    | refine okAsk (by kernel_rfl) ?_
    | refine okBrT ?_
    | refine okBrF ?_
    | refine okBr (fun h => ?_) (fun h => ?_)
    | (refine endBool (.inr rfl) rfl ?_; exact decE a b)
theorem oSame1_s [Wd] (a b : List UInt8) (ha : a.length ≤ 4194304) (hb : b.length ≤ 4194304) : FnP Tryz.prog 206 [.list 1 (a.map cByte), .list 1 (b.map cByte)] (.bool (eqB a b)) := by
  refine mkS 8 [] Tryz.func206 rfl (by kernel_rfl) ?_
  repeat'
    (conv => arg 2; whnf)
    first
    | refine okAsk (by kernel_rfl) ?_
    | refine okBrT ?_
    | refine okBrF ?_
    | refine okBr (fun h => ?_) (fun h => ?_)
    | refine okFn (bEq_s a b ha hb) rfl (Cos.refl _) ?_
    | refine endBool (.inr rfl) rfl rfl
theorem eqRec_s [Wd] (l k : List (List UInt8)) (hl : (dL dY).ok l) (hk : (dL dY).ok k) : FnP Tryz.prog 205 [.list 1 (l.map cRec), .list 1 (k.map cRec), .fn 206 0 []] (.bool (eqB l k)) := by
  have HL : l.length ≤ 4194304 := hl.1
  refine mkS 32 [] Tryz.func205 rfl (by kernel_rfl) ?_
  repeat'
    (conv => arg 2; whnf)
    first
    | refine okAsk (by kernel_rfl) ?_
    | refine okBrT ?_
    | refine okBrF ?_
    | refine okBr (fun h => ?_) (fun h => ?_)
    | (refine endBool (.inr rfl) rfl ?_; exact (eqB_len (by simp at h; omega)).symm)
  have hn : l.length = k.length := by simp at h; omega
  refine okLoop (α := Nat) (fun q => ⟨[(17, .int .i64 q), (16, .int .i64 (l.map cRec).length), (15, .list 1 (l.map cRec)), (2, .fn 206 0 []), (1, .list 1 (k.map cRec))], []⟩) (fun q => q ≤ l.length ∧ l.take q = k.take q) (fun q => l.length - q) 0 ⟨Nat.zero_le _, rfl⟩ (Sv.mk' [] rfl trivial ⟨rfl, rfl, rfl, rfl, rfl, trivial⟩) ?_
  rintro q ⟨hq, he⟩
  repeat'
    (conv => arg 2; whnf)
    first
    | refine okAsk (by kernel_rfl) ?_
    | refine okBrT ?_
    | refine okBrF ?_
    | refine okBr (fun h => ?_) (fun h => ?_)
    | refine okNthMap (l := l) (by simp at h; omega) (fun x hx => ?_)
    | refine okNthMap (l := k) (by simp at h; omega) (fun y hy => ?_)
    | refine okFn (oSame1_s x y (hl.2 x (List.mem_of_getElem? hx)) (hk.2 y (List.mem_of_getElem? hy))) rfl (Cos.refl _) ?_
    | refine okWrap (w64 (by simp at h hq; omega) (by have := HL; simp at h hq; omega)) ?_
    | refine okAgain (q + 1) (Sv.mk' [] rfl trivial ⟨rfl, rfl, rfl, rfl, rfl, trivial⟩) ⟨by have := (List.getElem?_eq_some_iff.1 hx).1; omega, eqB_go hx hy (by simpa using h) he⟩ (by have := (List.getElem?_eq_some_iff.1 hx).1; omega)
    | refine okOut ?_
    | refine okRet ?_
    | (refine endBool (.inr rfl) rfl ?_; have hl := eqB_no hx hy (by simpa using h); exact hl.symm; done)
    | (have hl := eqB_all hn (by simp at h; omega) he; refine endBool (.inr rfl) rfl ?_; exact hl.symm; done)
theorem oSame_s [Wd] (a b : OpD) (ha : dOp.ok a) (hb : dOp.ok b) : FnP Tryz.prog 133 [.agg (cOp a), .agg (cOp b)] (.bool (eqB a b)) := by
  refine mkS 38 [] Tryz.func133 rfl (by kernel_rfl) ?_
  repeat'
    (conv => arg 2; whnf)
    first
    | refine okAsk (by kernel_rfl) ?_
    | refine okBrT ?_
    | refine okBrF ?_
    | refine okBr (fun h => ?_) (fun h => ?_)
    | refine okFn (eqRec_s a.records b.records ha.2.2.2.2 hb.2.2.2.2) rfl (Cos.refl _) ?_
    | (refine endBool (.inr rfl) rfl ?_; rw [op_eqB]; simp_all; done)
    | (exfalso; simp_all; done)
theorem qSame1_s [Wd] (a b : SignedD) (ha : dSigned.ok a) (hb : dSigned.ok b) : FnP Tryz.prog 132 [.agg (cSigned a), .agg (cSigned b)] (.bool (eqB a b)) := by
  refine mkS 37 [] Tryz.func132 rfl (by kernel_rfl) ?_
  repeat'
    (conv => arg 2; whnf)
    first
    | refine okAsk (by kernel_rfl) ?_
    | refine okBrT ?_
    | refine okBrF ?_
    | refine okBr (fun h => ?_) (fun h => ?_)
    | refine okFn (oSame_s a.request.op b.request.op ha.1.2.2 hb.1.2.2) rfl (Cos.refl _) ?_
    | (refine endBool (.inr rfl) rfl ?_; rw [signed_eqB, request_eqB]; simp_all; done)
    | (exfalso; simp_all; done)
theorem eqSigned_s [Wd] (l k : List (SignedD)) (hl : (dL dSigned).ok l) (hk : (dL dSigned).ok k) : FnP Tryz.prog 131 [.list 9 (l.map cSigned), .list 9 (k.map cSigned), .fn 132 0 []] (.bool (eqB l k)) := by
  have HL : l.length ≤ 4194304 := hl.1
  refine mkS 32 [] Tryz.func131 rfl (by kernel_rfl) ?_
  repeat'
    (conv => arg 2; whnf)
    first
    | refine okAsk (by kernel_rfl) ?_
    | refine okBrT ?_
    | refine okBrF ?_
    | refine okBr (fun h => ?_) (fun h => ?_)
    | (refine endBool (.inr rfl) rfl ?_; exact (eqB_len (by simp at h; omega)).symm)
  have hn : l.length = k.length := by simp at h; omega
  refine okLoop (α := Nat) (fun q => ⟨[(17, .int .i64 q), (16, .int .i64 (l.map cSigned).length), (15, .list 9 (l.map cSigned)), (2, .fn 132 0 []), (1, .list 9 (k.map cSigned))], []⟩) (fun q => q ≤ l.length ∧ l.take q = k.take q) (fun q => l.length - q) 0 ⟨Nat.zero_le _, rfl⟩ (Sv.mk' [] rfl trivial ⟨rfl, rfl, rfl, rfl, rfl, trivial⟩) ?_
  rintro q ⟨hq, he⟩
  repeat'
    (conv => arg 2; whnf)
    first
    | refine okAsk (by kernel_rfl) ?_
    | refine okBrT ?_
    | refine okBrF ?_
    | refine okBr (fun h => ?_) (fun h => ?_)
    | refine okNthMap (l := l) (by simp at h; omega) (fun x hx => ?_)
    | refine okNthMap (l := k) (by simp at h; omega) (fun y hy => ?_)
    | refine okFn (qSame1_s x y (hl.2 x (List.mem_of_getElem? hx)) (hk.2 y (List.mem_of_getElem? hy))) rfl (Cos.refl _) ?_
    | refine okWrap (w64 (by simp at h hq; omega) (by have := HL; simp at h hq; omega)) ?_
    | refine okAgain (q + 1) (Sv.mk' [] rfl trivial ⟨rfl, rfl, rfl, rfl, rfl, trivial⟩) ⟨by have := (List.getElem?_eq_some_iff.1 hx).1; omega, eqB_go hx hy (by simpa using h) he⟩ (by have := (List.getElem?_eq_some_iff.1 hx).1; omega)
    | refine okOut ?_
    | refine okRet ?_
    | (refine endBool (.inr rfl) rfl ?_; have hl := eqB_no hx hy (by simpa using h); exact hl.symm; done)
    | (have hl := eqB_all hn (by simp at h; omega) he; refine endBool (.inr rfl) rfl ?_; exact hl.symm; done)
theorem qSame_s [Wd] (l k : List SignedD) (hl : (dL dSigned).ok l) (hk : (dL dSigned).ok k) : FnP Tryz.prog 37 [.list 9 (l.map cSigned), .list 9 (k.map cSigned)] (.bool (eqB l k)) := by
  refine mkS 8 [] Tryz.func37 rfl (by kernel_rfl) ?_
  repeat'
    (conv => arg 2; whnf)
    first
    | refine okAsk (by kernel_rfl) ?_
    | refine okBrT ?_
    | refine okBrF ?_
    | refine okBr (fun h => ?_) (fun h => ?_)
    | refine okFn (eqSigned_s l k hl hk) rfl (Cos.refl _) ?_
    | refine endBool (.inr rfl) rfl rfl
theorem eqSigns_s [Wd] (l k : List (SignD)) (hl : l.length ≤ 4194304) : FnP Tryz.prog 207 [.list 2 (l.map cSign), .list 2 (k.map cSign)] (.bool (eqB l k)) := by
  have HL : l.length ≤ 4194304 := hl
  refine mkS 26 [] Tryz.func207 rfl (by kernel_rfl) ?_
  repeat'
    (conv => arg 2; whnf)
    first
    | refine okAsk (by kernel_rfl) ?_
    | refine okBrT ?_
    | refine okBrF ?_
    | refine okBr (fun h => ?_) (fun h => ?_)
    | (refine endBool (.inr rfl) rfl ?_; exact (eqB_len (by simp at h; omega)).symm)
  have hn : l.length = k.length := by simp at h; omega
  refine okLoop (α := Nat) (fun q => ⟨[(13, .int .i64 q), (12, .int .i64 (l.map cSign).length), (0, .list 2 (l.map cSign)), (1, .list 2 (k.map cSign))], []⟩) (fun q => q ≤ l.length ∧ l.take q = k.take q) (fun q => l.length - q) 0 ⟨Nat.zero_le _, rfl⟩ (Sv.mk' [] rfl trivial ⟨rfl, rfl, rfl, rfl, trivial⟩) ?_
  rintro q ⟨hq, he⟩
  repeat'
    (conv => arg 2; whnf)
    first
    | refine okAsk (by kernel_rfl) ?_
    | refine okBrT ?_
    | refine okBrF ?_
    | refine okBr (fun h => ?_) (fun h => ?_)
    | refine okNthMap (l := l) (by simp at h; omega) (fun x hx => ?_)
    | refine okNthMap (l := k) (by simp at h; omega) (fun y hy => ?_)
    | refine okWrap (w64 (by simp at h hq; omega) (by have := HL; simp at h hq; omega)) ?_
    | refine okAgain (q + 1) (Sv.mk' [] rfl trivial ⟨rfl, rfl, rfl, rfl, trivial⟩) ⟨by have := (List.getElem?_eq_some_iff.1 hx).1; omega, eqB_go hx hy (by rw [← sign_eqB]; rw [Bool.true_and] at h; first | exact (Bool.not_eq_true' _).mp h | exact (Bool.not_eq_false' _).mp h) he⟩ (by have := (List.getElem?_eq_some_iff.1 hx).1; omega)
    | refine okOut ?_
    | refine okRet ?_
    | (refine endBool (.inr rfl) rfl ?_; have hl := eqB_no hx hy (by rw [← sign_eqB]; rw [Bool.true_and] at h; first | exact (Bool.not_eq_true' _).mp h | exact (Bool.not_eq_false' _).mp h); exact hl.symm; done)
    | (have hl := eqB_all hn (by simp at h; omega) he; refine endBool (.inr rfl) rfl ?_; exact hl.symm; done)
theorem eqHeaders_s [Wd] (l k : List (HeaderD)) (hl : l.length ≤ 4194304) : FnP Tryz.prog 209 [.list 5 (l.map cHeader), .list 5 (k.map cHeader)] (.bool (eqB l k)) := by
  have HL : l.length ≤ 4194304 := hl
  refine mkS 26 [] Tryz.func209 rfl (by kernel_rfl) ?_
  repeat'
    (conv => arg 2; whnf)
    first
    | refine okAsk (by kernel_rfl) ?_
    | refine okBrT ?_
    | refine okBrF ?_
    | refine okBr (fun h => ?_) (fun h => ?_)
    | (refine endBool (.inr rfl) rfl ?_; exact (eqB_len (by simp at h; omega)).symm)
  have hn : l.length = k.length := by simp at h; omega
  refine okLoop (α := Nat) (fun q => ⟨[(13, .int .i64 q), (12, .int .i64 (l.map cHeader).length), (0, .list 5 (l.map cHeader)), (1, .list 5 (k.map cHeader))], []⟩) (fun q => q ≤ l.length ∧ l.take q = k.take q) (fun q => l.length - q) 0 ⟨Nat.zero_le _, rfl⟩ (Sv.mk' [] rfl trivial ⟨rfl, rfl, rfl, rfl, trivial⟩) ?_
  rintro q ⟨hq, he⟩
  repeat'
    (conv => arg 2; whnf)
    first
    | refine okAsk (by kernel_rfl) ?_
    | refine okBrT ?_
    | refine okBrF ?_
    | refine okBr (fun h => ?_) (fun h => ?_)
    | refine okNthMap (l := l) (by simp at h; omega) (fun x hx => ?_)
    | refine okNthMap (l := k) (by simp at h; omega) (fun y hy => ?_)
    | refine okWrap (w64 (by simp at h hq; omega) (by have := HL; simp at h hq; omega)) ?_
    | refine okAgain (q + 1) (Sv.mk' [] rfl trivial ⟨rfl, rfl, rfl, rfl, trivial⟩) ⟨by have := (List.getElem?_eq_some_iff.1 hx).1; omega, eqB_go hx hy (by rw [← head_eqB]; rw [Bool.true_and] at h; first | exact (Bool.not_eq_true' _).mp h | exact (Bool.not_eq_false' _).mp h) he⟩ (by have := (List.getElem?_eq_some_iff.1 hx).1; omega)
    | refine okOut ?_
    | refine okRet ?_
    | (refine endBool (.inr rfl) rfl ?_; have hl := eqB_no hx hy (by rw [← head_eqB]; rw [Bool.true_and] at h; first | exact (Bool.not_eq_true' _).mp h | exact (Bool.not_eq_false' _).mp h); exact hl.symm; done)
    | (have hl := eqB_all hn (by simp at h; omega) he; refine endBool (.inr rfl) rfl ?_; exact hl.symm; done)
theorem eqDigests_s [Wd] (l k : List (Int)) (hl : l.length ≤ 4194304) : FnP Tryz.prog 210 [.list 1 (l.map cNum), .list 1 (k.map cNum)] (.bool (eqB l k)) := by
  have HL : l.length ≤ 4194304 := hl
  refine mkS 26 [] Tryz.func210 rfl (by kernel_rfl) ?_
  repeat'
    (conv => arg 2; whnf)
    first
    | refine okAsk (by kernel_rfl) ?_
    | refine okBrT ?_
    | refine okBrF ?_
    | refine okBr (fun h => ?_) (fun h => ?_)
    | (refine endBool (.inr rfl) rfl ?_; exact (eqB_len (by simp at h; omega)).symm)
  have hn : l.length = k.length := by simp at h; omega
  refine okLoop (α := Nat) (fun q => ⟨[(13, .int .i64 q), (12, .int .i64 (l.map cNum).length), (0, .list 1 (l.map cNum)), (1, .list 1 (k.map cNum))], []⟩) (fun q => q ≤ l.length ∧ l.take q = k.take q) (fun q => l.length - q) 0 ⟨Nat.zero_le _, rfl⟩ (Sv.mk' [] rfl trivial ⟨rfl, rfl, rfl, rfl, trivial⟩) ?_
  rintro q ⟨hq, he⟩
  repeat'
    (conv => arg 2; whnf)
    first
    | refine okAsk (by kernel_rfl) ?_
    | refine okBrT ?_
    | refine okBrF ?_
    | refine okBr (fun h => ?_) (fun h => ?_)
    | refine okNthMap (l := l) (by simp at h; omega) (fun x hx => ?_)
    | refine okNthMap (l := k) (by simp at h; omega) (fun y hy => ?_)
    | refine okWrap (w64 (by simp at h hq; omega) (by have := HL; simp at h hq; omega)) ?_
    | refine okAgain (q + 1) (Sv.mk' [] rfl trivial ⟨rfl, rfl, rfl, rfl, trivial⟩) ⟨by have := (List.getElem?_eq_some_iff.1 hx).1; omega, eqB_go hx hy (by rw [← beqE]; simpa using h) he⟩ (by have := (List.getElem?_eq_some_iff.1 hx).1; omega)
    | refine okOut ?_
    | refine okRet ?_
    | (refine endBool (.inr rfl) rfl ?_; have hl := eqB_no hx hy (by rw [← beqE]; simpa using h); exact hl.symm; done)
    | (have hl := eqB_all hn (by simp at h; omega) he; refine endBool (.inr rfl) rfl ?_; exact hl.symm; done)
theorem sameCert_s [Wd] (a b : CertD) (ha : dCert.ok a) (hb : dCert.ok b) : FnP Tryz.prog 135 [.agg (cCert a), .agg (cCert b)] (.bool (eqB a b)) := by
  refine mkS 24 [] Tryz.func135 rfl (by kernel_rfl) ?_
  repeat'
    (conv => arg 2; whnf)
    first
    | refine okAsk (by kernel_rfl) ?_
    | refine okBrT ?_
    | refine okBrF ?_
    | refine okBr (fun h => ?_) (fun h => ?_)
    | refine okFn (eqSigns_s a.signs b.signs ha.2.2.1) rfl (Cos.refl _) ?_
    | (refine endBool (.inr rfl) rfl ?_; rw [cert_eqB]; simp_all; done)
    | (exfalso; simp_all; done)
theorem samePrep_s [Wd] (a b : PreparedD) (ha : dPrepared.ok a) (hb : dPrepared.ok b) : FnP Tryz.prog 208 [.agg (cPrepared a), .agg (cPrepared b)] (.bool (eqB a b)) := by
  refine mkS 45 [] Tryz.func208 rfl (by kernel_rfl) ?_
  repeat'
    (conv => arg 2; whnf)
    first
    | refine okAsk (by kernel_rfl) ?_
    | refine okBrT ?_
    | refine okBrF ?_
    | refine okBr (fun h => ?_) (fun h => ?_)
    | refine okFn (eqSigns_s a.signs b.signs ha.2.2.2.2.1.1) rfl (Cos.refl _) ?_
    | refine okFn (qSame_s a.batch b.batch ha.2.2.2.2.2 hb.2.2.2.2.2) rfl (Cos.refl _) ?_
    | (refine endBool (.inr rfl) rfl ?_; rw [prepared_eqB]; simp_all; done)
    | (exfalso; simp_all; done)
theorem eqPrep_s [Wd] (l k : List (PreparedD)) (hl : (dL dPrepared).ok l) (hk : (dL dPrepared).ok k) : FnP Tryz.prog 34 [.list 7 (l.map cPrepared), .list 7 (k.map cPrepared), .fn 208 0 []] (.bool (eqB l k)) := by
  have HL : l.length ≤ 4194304 := hl.1
  refine mkS 32 [] Tryz.func34 rfl (by kernel_rfl) ?_
  repeat'
    (conv => arg 2; whnf)
    first
    | refine okAsk (by kernel_rfl) ?_
    | refine okBrT ?_
    | refine okBrF ?_
    | refine okBr (fun h => ?_) (fun h => ?_)
    | (refine endBool (.inr rfl) rfl ?_; exact (eqB_len (by simp at h; omega)).symm)
  have hn : l.length = k.length := by simp at h; omega
  refine okLoop (α := Nat) (fun q => ⟨[(17, .int .i64 q), (16, .int .i64 (l.map cPrepared).length), (15, .list 7 (l.map cPrepared)), (2, .fn 208 0 []), (1, .list 7 (k.map cPrepared))], []⟩) (fun q => q ≤ l.length ∧ l.take q = k.take q) (fun q => l.length - q) 0 ⟨Nat.zero_le _, rfl⟩ (Sv.mk' [] rfl trivial ⟨rfl, rfl, rfl, rfl, rfl, trivial⟩) ?_
  rintro q ⟨hq, he⟩
  repeat'
    (conv => arg 2; whnf)
    first
    | refine okAsk (by kernel_rfl) ?_
    | refine okBrT ?_
    | refine okBrF ?_
    | refine okBr (fun h => ?_) (fun h => ?_)
    | refine okNthMap (l := l) (by simp at h; omega) (fun x hx => ?_)
    | refine okNthMap (l := k) (by simp at h; omega) (fun y hy => ?_)
    | refine okFn (samePrep_s x y (hl.2 x (List.mem_of_getElem? hx)) (hk.2 y (List.mem_of_getElem? hy))) rfl (Cos.refl _) ?_
    | refine okWrap (w64 (by simp at h hq; omega) (by have := HL; simp at h hq; omega)) ?_
    | refine okAgain (q + 1) (Sv.mk' [] rfl trivial ⟨rfl, rfl, rfl, rfl, rfl, trivial⟩) ⟨by have := (List.getElem?_eq_some_iff.1 hx).1; omega, eqB_go hx hy (by simpa using h) he⟩ (by have := (List.getElem?_eq_some_iff.1 hx).1; omega)
    | refine okOut ?_
    | refine okRet ?_
    | (refine endBool (.inr rfl) rfl ?_; have hl := eqB_no hx hy (by simpa using h); exact hl.symm; done)
    | (have hl := eqB_all hn (by simp at h; omega) he; refine endBool (.inr rfl) rfl ?_; exact hl.symm; done)
theorem sameChange_s [Wd] (a b : ChangeD) (ha : dChange.ok a) (hb : dChange.ok b) : FnP Tryz.prog 137 [.agg (cChange a), .agg (cChange b)] (.bool (eqB a b)) := by
  refine mkS 38 [] Tryz.func137 rfl (by kernel_rfl) ?_
  repeat'
    (conv => arg 2; whnf)
    first
    | refine okAsk (by kernel_rfl) ?_
    | refine okBrT ?_
    | refine okBrF ?_
    | refine okBr (fun h => ?_) (fun h => ?_)
    | refine okFn (sameCert_s a.cert b.cert ha.2.2.1 hb.2.2.1) rfl (Cos.refl _) ?_
    | refine okFn (eqPrep_s a.above b.above ha.2.2.2.1 hb.2.2.2.1) rfl (Cos.refl _) ?_
    | (refine endBool (.inr rfl) rfl ?_; rw [change_eqB]; simp_all; done)
    | (exfalso; simp_all; done)
theorem sameEntry_s [Wd] (a b : EntryD) (ha : dEntry.ok a) (hb : dEntry.ok b) : FnP Tryz.prog 139 [.agg (cEntry a), .agg (cEntry b)] (.bool (eqB a b)) := by
  refine mkS 31 [] Tryz.func139 rfl (by kernel_rfl) ?_
  repeat'
    (conv => arg 2; whnf)
    first
    | refine okAsk (by kernel_rfl) ?_
    | refine okBrT ?_
    | refine okBrF ?_
    | refine okBr (fun h => ?_) (fun h => ?_)
    | refine okFn (qSame_s a.batch b.batch ha.2.2.1 hb.2.2.1) rfl (Cos.refl _) ?_
    | (refine endBool (.inr rfl) rfl ?_; rw [entry_eqB]; simp_all; done)
    | (exfalso; simp_all; done)
theorem sameProof_s [Wd] (a b : ProofD) (ha : dProof.ok a) (hb : dProof.ok b) : FnP Tryz.prog 140 [.agg (cProof a), .agg (cProof b)] (.bool (eqB a b)) := by
  refine mkS 59 [] Tryz.func140 rfl (by kernel_rfl) ?_
  repeat'
    (conv => arg 2; whnf)
    first
    | refine okAsk (by kernel_rfl) ?_
    | refine okBrT ?_
    | refine okBrF ?_
    | refine okBr (fun h => ?_) (fun h => ?_)
    | refine okFn (bEq_s a.record b.record ha.2.2.1 hb.2.2.1) rfl (Cos.refl _) ?_
    | refine okFn (eqHeaders_s a.headers b.headers ha.2.2.2.1.1) rfl (Cos.refl _) ?_
    | refine okFn (eqDigests_s a.path b.path ha.2.2.2.2.2.2.1.1) rfl (Cos.refl _) ?_
    | refine okFn (sameCert_s a.cert b.cert ha.2.2.2.2.2.2.2 hb.2.2.2.2.2.2.2) rfl (Cos.refl _) ?_
    | (refine endBool (.inr rfl) rfl ?_; rw [proof_eqB]; simp_all; done)
    | (exfalso; simp_all; done)
theorem eqChange_s [Wd] (l k : List (ChangeD)) (hl : (dL dChange).ok l) (hk : (dL dChange).ok k) : FnP Tryz.prog 136 [.list 8 (l.map cChange), .list 8 (k.map cChange), .fn 137 0 []] (.bool (eqB l k)) := by
  have HL : l.length ≤ 4194304 := hl.1
  refine mkS 32 [] Tryz.func136 rfl (by kernel_rfl) ?_
  repeat'
    (conv => arg 2; whnf)
    first
    | refine okAsk (by kernel_rfl) ?_
    | refine okBrT ?_
    | refine okBrF ?_
    | refine okBr (fun h => ?_) (fun h => ?_)
    | (refine endBool (.inr rfl) rfl ?_; exact (eqB_len (by simp at h; omega)).symm)
  have hn : l.length = k.length := by simp at h; omega
  refine okLoop (α := Nat) (fun q => ⟨[(17, .int .i64 q), (16, .int .i64 (l.map cChange).length), (15, .list 8 (l.map cChange)), (2, .fn 137 0 []), (1, .list 8 (k.map cChange))], []⟩) (fun q => q ≤ l.length ∧ l.take q = k.take q) (fun q => l.length - q) 0 ⟨Nat.zero_le _, rfl⟩ (Sv.mk' [] rfl trivial ⟨rfl, rfl, rfl, rfl, rfl, trivial⟩) ?_
  rintro q ⟨hq, he⟩
  repeat'
    (conv => arg 2; whnf)
    first
    | refine okAsk (by kernel_rfl) ?_
    | refine okBrT ?_
    | refine okBrF ?_
    | refine okBr (fun h => ?_) (fun h => ?_)
    | refine okNthMap (l := l) (by simp at h; omega) (fun x hx => ?_)
    | refine okNthMap (l := k) (by simp at h; omega) (fun y hy => ?_)
    | refine okFn (sameChange_s x y (hl.2 x (List.mem_of_getElem? hx)) (hk.2 y (List.mem_of_getElem? hy))) rfl (Cos.refl _) ?_
    | refine okWrap (w64 (by simp at h hq; omega) (by have := HL; simp at h hq; omega)) ?_
    | refine okAgain (q + 1) (Sv.mk' [] rfl trivial ⟨rfl, rfl, rfl, rfl, rfl, trivial⟩) ⟨by have := (List.getElem?_eq_some_iff.1 hx).1; omega, eqB_go hx hy (by simpa using h) he⟩ (by have := (List.getElem?_eq_some_iff.1 hx).1; omega)
    | refine okOut ?_
    | refine okRet ?_
    | (refine endBool (.inr rfl) rfl ?_; have hl := eqB_no hx hy (by simpa using h); exact hl.symm; done)
    | (have hl := eqB_all hn (by simp at h; omega) he; refine endBool (.inr rfl) rfl ?_; exact hl.symm; done)
theorem eqEntry_s [Wd] (l k : List (EntryD)) (hl : (dL dEntry).ok l) (hk : (dL dEntry).ok k) : FnP Tryz.prog 138 [.list 5 (l.map cEntry), .list 5 (k.map cEntry), .fn 139 0 []] (.bool (eqB l k)) := by
  have HL : l.length ≤ 4194304 := hl.1
  refine mkS 32 [] Tryz.func138 rfl (by kernel_rfl) ?_
  repeat'
    (conv => arg 2; whnf)
    first
    | refine okAsk (by kernel_rfl) ?_
    | refine okBrT ?_
    | refine okBrF ?_
    | refine okBr (fun h => ?_) (fun h => ?_)
    | (refine endBool (.inr rfl) rfl ?_; exact (eqB_len (by simp at h; omega)).symm)
  have hn : l.length = k.length := by simp at h; omega
  refine okLoop (α := Nat) (fun q => ⟨[(17, .int .i64 q), (16, .int .i64 (l.map cEntry).length), (15, .list 5 (l.map cEntry)), (2, .fn 139 0 []), (1, .list 5 (k.map cEntry))], []⟩) (fun q => q ≤ l.length ∧ l.take q = k.take q) (fun q => l.length - q) 0 ⟨Nat.zero_le _, rfl⟩ (Sv.mk' [] rfl trivial ⟨rfl, rfl, rfl, rfl, rfl, trivial⟩) ?_
  rintro q ⟨hq, he⟩
  repeat'
    (conv => arg 2; whnf)
    first
    | refine okAsk (by kernel_rfl) ?_
    | refine okBrT ?_
    | refine okBrF ?_
    | refine okBr (fun h => ?_) (fun h => ?_)
    | refine okNthMap (l := l) (by simp at h; omega) (fun x hx => ?_)
    | refine okNthMap (l := k) (by simp at h; omega) (fun y hy => ?_)
    | refine okFn (sameEntry_s x y (hl.2 x (List.mem_of_getElem? hx)) (hk.2 y (List.mem_of_getElem? hy))) rfl (Cos.refl _) ?_
    | refine okWrap (w64 (by simp at h hq; omega) (by have := HL; simp at h hq; omega)) ?_
    | refine okAgain (q + 1) (Sv.mk' [] rfl trivial ⟨rfl, rfl, rfl, rfl, rfl, trivial⟩) ⟨by have := (List.getElem?_eq_some_iff.1 hx).1; omega, eqB_go hx hy (by simpa using h) he⟩ (by have := (List.getElem?_eq_some_iff.1 hx).1; omega)
    | refine okOut ?_
    | refine okRet ?_
    | (refine endBool (.inr rfl) rfl ?_; have hl := eqB_no hx hy (by simpa using h); exact hl.symm; done)
    | (have hl := eqB_all hn (by simp at h; omega) he; refine endBool (.inr rfl) rfl ?_; exact hl.symm; done)
def flatD (a : MsgD) : List D := [.int .i64 a.kind, .int .i64 a.src, .int .i64 a.client, .int .i64 a.view, .int .i64 a.seq, .int .i64 a.time, .int .i64 a.offset, .int .i64 a.digest, .int .i64 a.result.err, .int .i64 a.result.offset, .str a.topic, .int .i64 a.sign.key, .int .i64 a.sign.digest]
theorem flatOf_s [Wd] (a : MsgD) : FnP Tryz.prog 134 [.agg (cMsg a)] (.agg (flatD a)) := by
  refine mkS 26 [] Tryz.func134 rfl (by kernel_rfl) ?_
  repeat'
    (conv => arg 2; whnf)
    first
    | refine okAsk (by kernel_rfl) ?_
    | refine okBrT ?_
    | refine okBrF ?_
    | refine okBr (fun h => ?_) (fun h => ?_)
    | refine endFn0 (.inr rfl) rfl (.refl _) rfl
theorem mSame_s [Wd] (a b : MsgD) (ha : dMsg.ok a) (hb : dMsg.ok b) : FnP Tryz.prog 39 [.agg (cMsg a), .agg (cMsg b)] (.bool (eqB a b)) := by
  refine mkS 52 [(1, ⟨[(0, false), (2, false), (1, true), (3, true), (4, false), (5, false), (6, false), (7, false), (8, false), (9, false), (10, true), (11, false), (12, false), (13, false), (14, false), (15, false), (16, false), (17, true), (18, false), (19, false), (20, false), (21, false), (22, false), (23, false), (24, true), (25, false), (26, false), (27, false), (28, false), (29, false), (30, false), (31, true), (32, false), (33, false), (34, false), (35, false), (36, false), (37, false), (38, true), (39, false), (40, false), (41, false), (42, false), (43, false), (44, false), (45, true), (46, false), (47, false)], []⟩)] Tryz.func39 rfl (by kernel_rfl) ?_
  repeat'
    (conv => arg 2; whnf)
    first
    | refine okAsk (by kernel_rfl) ?_
    | refine okBrT ?_
    | refine okBrF ?_
    | refine okBr (fun h => ?_) (fun h => ?_)
    | refine okFn (flatOf_s _) rfl (Cos.refl _) ?_
    | refine okFn (qSame_s a.batch b.batch ha.2.2.2.2.2.2.2.2.1 hb.2.2.2.2.2.2.2.2.1) rfl (Cos.refl _) ?_
    | refine okFn (sameCert_s a.cert b.cert ha.2.2.2.2.2.2.2.2.2.1 hb.2.2.2.2.2.2.2.2.2.1) rfl (Cos.refl _) ?_
    | refine okFn (eqChange_s a.changes b.changes ha.2.2.2.2.2.2.2.2.2.2.1 hb.2.2.2.2.2.2.2.2.2.2.1) rfl (Cos.refl _) ?_
    | refine okFn (eqEntry_s a.entries b.entries ha.2.2.2.2.2.2.2.2.2.2.2.1 hb.2.2.2.2.2.2.2.2.2.2.2.1) rfl (Cos.refl _) ?_
    | refine okFn (bEq_s a.state b.state ha.2.2.2.2.2.2.2.2.2.2.2.2.1 hb.2.2.2.2.2.2.2.2.2.2.2.2.1) rfl (Cos.refl _) ?_
    | refine okFn (sameProof_s a.proof b.proof ha.2.2.2.2.2.2.2.2.2.2.2.2.2.2.2.1 hb.2.2.2.2.2.2.2.2.2.2.2.2.2.2.2.1) rfl (Cos.refl _) ?_
    | (refine endBool (.inr rfl) rfl ?_; rw [msg_eqB]; simp_all; done)
    | (exfalso; simp_all; done)
end Go.Proofs.YteaggenihhaajaaGreat

/- Which operations, batches, messages are the same, over data: the reference's side (printed by gen_ar.py). -/
namespace Go.Proofs.YteaggenihhaajaaGreat
open Go.RowKit
set_option linter.unusedVariables false
set_option maxRecDepth 20000

theorem okNthAt [Wd] {P : Program} {Q : Exit → S → Prop} {α : Type} {l : List α} {f : α → List D} {q : Nat} {x : α} {c : List D → T} (hx : l[q]? = some x) (h : (c (f x)).ok P Q) : (T.nth (l.map f) (q : Int) c).ok P Q :=
  ⟨f x, Int.natCast_nonneg q, by simp [hx], h⟩
theorem rSigns_s [Wd] (l k : List (SignD)) (hl : l.length ≤ 4194304) : FnP Tryz.prog 184 [.list 2 (l.map cSign), .list 2 (k.map cSign)] (.bool (eqB l k)) := by
  have HL : l.length ≤ 4194304 := hl
  refine mkS 26 [] Tryz.func184 rfl (by kernel_rfl) ?_
  repeat'
    (conv => arg 2; whnf)
    first
    | refine okAsk (by kernel_rfl) ?_
    | refine okBrT ?_
    | refine okBrF ?_
    | refine okBr (fun h => ?_) (fun h => ?_)
    | (refine endBool (.inr rfl) rfl ?_; exact (eqB_len (by simp at h; omega)).symm)
  have hn : l.length = k.length := by simp at h; omega
  refine okLoop (α := Nat) (fun q => ⟨[(5, .int .i64 q), (0, .list 2 (l.map cSign)), (1, .list 2 (k.map cSign))], []⟩) (fun q => q ≤ l.length ∧ l.take q = k.take q) (fun q => l.length - q) 0 ⟨Nat.zero_le _, rfl⟩ (Sv.mk' [] rfl trivial ⟨rfl, rfl, rfl, trivial⟩) ?_
  rintro q ⟨hq, he⟩
  repeat'
    (conv => arg 2; whnf)
    first
    | refine okAsk (by kernel_rfl) ?_
    | refine okBrT ?_
    | refine okBrF ?_
    | refine okBr (fun h => ?_) (fun h => ?_)
    | refine okNthMap (l := l) (by simp at h; omega) (fun x hx => ?_)
    | refine okNthMap (l := k) (by simp at h; omega) (fun y hy => ?_)
    | refine okWrap (w64 (by simp at h hq; omega) (by have := HL; simp at h hq; omega)) ?_
    | refine okAgain (q + 1) (Sv.mk' [] rfl trivial ⟨rfl, rfl, rfl, trivial⟩) ⟨by have := (List.getElem?_eq_some_iff.1 hx).1; omega, eqB_go hx hy (by rw [← sign_eqB]; rw [Bool.true_and] at h; first | exact (Bool.not_eq_true' _).mp h | exact (Bool.not_eq_false' _).mp h) he⟩ (by have := (List.getElem?_eq_some_iff.1 hx).1; omega)
    | refine okOut ?_
    | refine okRet ?_
    | (refine endBool (.inr rfl) rfl ?_; have hl := eqB_no hx hy (by rw [← sign_eqB]; rw [Bool.true_and] at h; first | exact (Bool.not_eq_true' _).mp h | exact (Bool.not_eq_false' _).mp h); exact hl.symm; done)
    | (have hl := eqB_all hn (by simp at h; omega) he; refine endBool (.inr rfl) rfl ?_; exact hl.symm; done)
theorem rCert_s [Wd] (a b : CertD) (ha : dCert.ok a) (hb : dCert.ok b) : FnP Tryz.prog 103 [.agg (cCert a), .agg (cCert b)] (.bool (eqB a b)) := by
  refine mkS 24 [] Tryz.func103 rfl (by kernel_rfl) ?_
  repeat'
    (conv => arg 2; whnf)
    first
    | refine okAsk (by kernel_rfl) ?_
    | refine okBrT ?_
    | refine okBrF ?_
    | refine okBr (fun h => ?_) (fun h => ?_)
    | refine okFn (rSigns_s a.signs b.signs ha.2.2.1) rfl (Cos.refl _) ?_
    | (refine endBool (.inr rfl) rfl ?_; rw [cert_eqB]; simp_all; done)
    | (exfalso; simp_all; done)
theorem rOp_s [Wd] (a b : OpD) (ha : dOp.ok a) (hb : dOp.ok b) : FnP Tryz.prog 187 [.agg (cOp a), .agg (cOp b)] (.bool (eqB a b)) := by
  refine mkS 61 [] Tryz.func187 rfl (by kernel_rfl) ?_
  repeat'
    (conv => arg 2; whnf)
    first
    | refine okAsk (by kernel_rfl) ?_
    | refine okBrT ?_
    | refine okBrF ?_
    | refine okBr (fun h => ?_) (fun h => ?_)
    | (refine endBool (.inr rfl) rfl ?_; rw [op_eqB]; simp_all; done)
    | (refine endBool (.inr rfl) rfl ?_; rw [op_eqB, eqB_len (l := a.records) (k := b.records) (by simp at h; omega)]; simp; done)
    | (exfalso; simp_all; done)
  have HL : a.records.length ≤ 4194304 := ha.2.2.2.2.1
  have hl := ha.2.2.2.2
  have hk := hb.2.2.2.2
  have hn : a.records.length = b.records.length := by
    have e : (a.records.length : Int) = b.records.length := by simp_all
    omega
  refine okLoop (α := Nat) (fun q => ⟨[(5, .int .i64 q), (2, .ptr 0 0), (3, .ptr 1 0)], [.cells 80 (cOp a), .cells 80 (cOp b)]⟩) (fun q => q ≤ a.records.length ∧ a.records.take q = b.records.take q) (fun q => a.records.length - q) 0 ⟨Nat.zero_le _, rfl⟩ (Sv.mk' [0, 1] rfl ⟨⟨rfl, rfl⟩, ⟨rfl, rfl⟩, trivial⟩ ⟨rfl, rfl, rfl, trivial⟩) ?_
  rintro q ⟨hq, he⟩
  repeat'
    (conv => arg 2; whnf)
    first
    | refine okAsk (by kernel_rfl) ?_
    | refine okBrT ?_
    | refine okBrF ?_
    | refine okBr (fun h => ?_) (fun h => ?_)
    | refine okNthMap (l := a.records) (by simp at h; omega) (fun x hx => ?_)
    | refine okNthMap (l := b.records) (by simp at h; omega) (fun y hy => ?_)
    | refine okByts x rfl ?_
    | refine okByts y rfl ?_
    | refine okAsk (by have h2 : y.length ≤ 4194304 := hk.2 y (List.mem_of_getElem? hy); omega) ?_
    | refine okAsk (by have h1 : x.length ≤ 4194304 := hl.2 x (List.mem_of_getElem? hx); omega) ?_
    | refine okWrap (w64 (by simp at h hq; omega) (by have := HL; simp at h hq; omega)) ?_
    | refine okAgain (q + 1) (Sv.mk' [0, 1] rfl ⟨⟨rfl, rfl⟩, ⟨rfl, rfl⟩, trivial⟩ ⟨rfl, rfl, rfl, trivial⟩) ⟨by have := (List.getElem?_eq_some_iff.1 hx).1; omega, eqB_go hx hy (by rw [← decE]; simpa using h) he⟩ (by have := (List.getElem?_eq_some_iff.1 hx).1; omega)
    | refine okOut ?_
    | refine okRet ?_
    | (refine endBool (.inr rfl) rfl ?_; have hl := eqB_no hx hy (by rw [← decE]; simpa using h); rw [op_eqB, hl]; simp; done)
    | (have hl := eqB_all hn (by simp at h; omega) he; refine endBool (.inr rfl) rfl ?_; rw [op_eqB]; simp_all; done)
theorem rReq_s [Wd] (a b : RequestD) (ha : dRequest.ok a) (hb : dRequest.ok b) : FnP Tryz.prog 106 [.agg (cRequest a), .agg (cRequest b)] (.bool (eqB a b)) := by
  refine mkS 24 [] Tryz.func106 rfl (by kernel_rfl) ?_
  repeat'
    (conv => arg 2; whnf)
    first
    | refine okAsk (by kernel_rfl) ?_
    | refine okBrT ?_
    | refine okBrF ?_
    | refine okBr (fun h => ?_) (fun h => ?_)
    | refine okFn (rOp_s a.op b.op ha.2.2 hb.2.2) rfl (Cos.refl _) ?_
    | (refine endBool (.inr rfl) rfl ?_; rw [request_eqB]; simp_all; done)
    | (exfalso; simp_all; done)
theorem rBatch_s [Wd] (l k : List (SignedD)) (hl : (dL dSigned).ok l) (hk : (dL dSigned).ok k) : FnP Tryz.prog 26 [.list 9 (l.map cSigned), .list 9 (k.map cSigned)] (.bool (eqB l k)) := by
  have HL : l.length ≤ 4194304 := hl.1
  refine mkS 42 [] Tryz.func26 rfl (by kernel_rfl) ?_
  repeat'
    (conv => arg 2; whnf)
    first
    | refine okAsk (by kernel_rfl) ?_
    | refine okBrT ?_
    | refine okBrF ?_
    | refine okBr (fun h => ?_) (fun h => ?_)
    | (refine endBool (.inr rfl) rfl ?_; exact (eqB_len (by simp at h; omega)).symm)
  have hn : l.length = k.length := by simp at h; omega
  refine okLoop (α := Nat) (fun q => ⟨[(5, .int .i64 q), (0, .list 9 (l.map cSigned)), (1, .list 9 (k.map cSigned))], []⟩) (fun q => q ≤ l.length ∧ l.take q = k.take q) (fun q => l.length - q) 0 ⟨Nat.zero_le _, rfl⟩ (Sv.mk' [] rfl trivial ⟨rfl, rfl, rfl, trivial⟩) ?_
  rintro q ⟨hq, he⟩
  repeat'
    (conv => arg 2; whnf)
    first
    | refine okAsk (by kernel_rfl) ?_
    | refine okBrT ?_
    | refine okBrF ?_
    | refine okBr (fun h => ?_) (fun h => ?_)
    | refine okNthAt hx ?_
    | refine okNthAt hy ?_
    | refine okNthMap (l := l) (by simp at h; omega) (fun x hx => ?_)
    | refine okNthMap (l := k) (by simp at h; omega) (fun y hy => ?_)
    | refine okFn (rReq_s x.request y.request (hl.2 x (List.mem_of_getElem? hx)).1 (hk.2 y (List.mem_of_getElem? hy)).1) rfl (Cos.refl _) ?_
    | refine okWrap (w64 (by simp at h hq; omega) (by have := HL; simp at h hq; omega)) ?_
    | refine okAgain (q + 1) (Sv.mk' [] rfl trivial ⟨rfl, rfl, rfl, trivial⟩) ⟨by have := (List.getElem?_eq_some_iff.1 hx).1; omega, eqB_go hx hy (by rw [signed_eqB]; simp_all) he⟩ (by have := (List.getElem?_eq_some_iff.1 hx).1; omega)
    | refine okOut ?_
    | refine okRet ?_
    | (refine endBool (.inr rfl) rfl ?_; have hl := eqB_no hx hy (by rw [signed_eqB]; simp_all); exact hl.symm; done)
    | (have hl := eqB_all hn (by simp at h; omega) he; refine endBool (.inr rfl) rfl ?_; exact hl.symm; done)
theorem rPrep_s [Wd] (a b : PreparedD) (ha : dPrepared.ok a) (hb : dPrepared.ok b) : FnP Tryz.prog 188 [.agg (cPrepared a), .agg (cPrepared b)] (.bool (eqB a b)) := by
  refine mkS 45 [] Tryz.func188 rfl (by kernel_rfl) ?_
  repeat'
    (conv => arg 2; whnf)
    first
    | refine okAsk (by kernel_rfl) ?_
    | refine okBrT ?_
    | refine okBrF ?_
    | refine okBr (fun h => ?_) (fun h => ?_)
    | refine okFn (rSigns_s a.signs b.signs ha.2.2.2.2.1.1) rfl (Cos.refl _) ?_
    | refine okFn (rBatch_s a.batch b.batch ha.2.2.2.2.2 hb.2.2.2.2.2) rfl (Cos.refl _) ?_
    | (refine endBool (.inr rfl) rfl ?_; rw [prepared_eqB]; simp_all; done)
    | (exfalso; simp_all; done)
theorem rChange_s [Wd] (a b : ChangeD) (ha : dChange.ok a) (hb : dChange.ok b) : FnP Tryz.prog 107 [.agg (cChange a), .agg (cChange b)] (.bool (eqB a b)) := by
  refine mkS 61 [] Tryz.func107 rfl (by kernel_rfl) ?_
  repeat'
    (conv => arg 2; whnf)
    first
    | refine okAsk (by kernel_rfl) ?_
    | refine okBrT ?_
    | refine okBrF ?_
    | refine okBr (fun h => ?_) (fun h => ?_)
    | refine okFn (rCert_s a.cert b.cert ha.2.2.1 hb.2.2.1) rfl (Cos.refl _) ?_
    | (refine endBool (.inr rfl) rfl ?_; rw [change_eqB]; simp_all; done)
    | (refine endBool (.inr rfl) rfl ?_; rw [change_eqB, eqB_len (l := a.above) (k := b.above) (by simp at h; omega)]; simp; done)
    | (exfalso; simp_all; done)
  have HL : a.above.length ≤ 4194304 := ha.2.2.2.1.1
  have hl := ha.2.2.2.1
  have hk := hb.2.2.2.1
  have hn : a.above.length = b.above.length := by
    have e : (a.above.length : Int) = b.above.length := by simp_all
    omega
  refine okLoop (α := Nat) (fun q => ⟨[(5, .int .i64 q), (2, .ptr 0 0), (3, .ptr 1 0)], [.cells 77 (cChange a), .cells 77 (cChange b)]⟩) (fun q => q ≤ a.above.length ∧ a.above.take q = b.above.take q) (fun q => a.above.length - q) 0 ⟨Nat.zero_le _, rfl⟩ (Sv.mk' [0, 1] rfl ⟨⟨rfl, rfl⟩, ⟨rfl, rfl⟩, trivial⟩ ⟨rfl, rfl, rfl, trivial⟩) ?_
  rintro q ⟨hq, he⟩
  repeat'
    (conv => arg 2; whnf)
    first
    | refine okAsk (by kernel_rfl) ?_
    | refine okBrT ?_
    | refine okBrF ?_
    | refine okBr (fun h => ?_) (fun h => ?_)
    | refine okNthMap (l := a.above) (by simp at h; omega) (fun x hx => ?_)
    | refine okNthMap (l := b.above) (by simp at h; omega) (fun y hy => ?_)
    | refine okFn (rPrep_s x y (hl.2 x (List.mem_of_getElem? hx)) (hk.2 y (List.mem_of_getElem? hy))) rfl (Cos.refl _) ?_
    | refine okWrap (w64 (by simp at h hq; omega) (by have := HL; simp at h hq; omega)) ?_
    | refine okAgain (q + 1) (Sv.mk' [0, 1] rfl ⟨⟨rfl, rfl⟩, ⟨rfl, rfl⟩, trivial⟩ ⟨rfl, rfl, rfl, trivial⟩) ⟨by have := (List.getElem?_eq_some_iff.1 hx).1; omega, eqB_go hx hy (by simpa using h) he⟩ (by have := (List.getElem?_eq_some_iff.1 hx).1; omega)
    | refine okOut ?_
    | refine okRet ?_
    | (refine endBool (.inr rfl) rfl ?_; have hl := eqB_no hx hy (by simpa using h); rw [change_eqB, hl]; simp; done)
    | (have hl := eqB_all hn (by simp at h; omega) he; refine endBool (.inr rfl) rfl ?_; rw [change_eqB]; simp_all; done)
theorem rEntries_s [Wd] (l k : List (EntryD)) (hl : (dL dEntry).ok l) (hk : (dL dEntry).ok k) : FnP Tryz.prog 189 [.list 5 (l.map cEntry), .list 5 (k.map cEntry)] (.bool (eqB l k)) := by
  have HL : l.length ≤ 4194304 := hl.1
  refine mkS 68 [] Tryz.func189 rfl (by kernel_rfl) ?_
  repeat'
    (conv => arg 2; whnf)
    first
    | refine okAsk (by kernel_rfl) ?_
    | refine okBrT ?_
    | refine okBrF ?_
    | refine okBr (fun h => ?_) (fun h => ?_)
    | (refine endBool (.inr rfl) rfl ?_; exact (eqB_len (by simp at h; omega)).symm)
  have hn : l.length = k.length := by simp at h; omega
  refine okLoop (α := Nat) (fun q => ⟨[(5, .int .i64 q), (0, .list 5 (l.map cEntry)), (1, .list 5 (k.map cEntry))], []⟩) (fun q => q ≤ l.length ∧ l.take q = k.take q) (fun q => l.length - q) 0 ⟨Nat.zero_le _, rfl⟩ (Sv.mk' [] rfl trivial ⟨rfl, rfl, rfl, trivial⟩) ?_
  rintro q ⟨hq, he⟩
  repeat'
    (conv => arg 2; whnf)
    first
    | refine okAsk (by kernel_rfl) ?_
    | refine okBrT ?_
    | refine okBrF ?_
    | refine okBr (fun h => ?_) (fun h => ?_)
    | refine okNthAt hx ?_
    | refine okNthAt hy ?_
    | refine okNthMap (l := l) (by simp at h; omega) (fun x hx => ?_)
    | refine okNthMap (l := k) (by simp at h; omega) (fun y hy => ?_)
    | refine okFn (rBatch_s x.batch y.batch (hl.2 x (List.mem_of_getElem? hx)).2.2.1 (hk.2 y (List.mem_of_getElem? hy)).2.2.1) rfl (Cos.refl _) ?_
    | refine okWrap (w64 (by simp at h hq; omega) (by have := HL; simp at h hq; omega)) ?_
    | refine okAgain (q + 1) (Sv.mk' [] rfl trivial ⟨rfl, rfl, rfl, trivial⟩) ⟨by have := (List.getElem?_eq_some_iff.1 hx).1; omega, eqB_go hx hy (by rw [entry_eqB]; simp_all) he⟩ (by have := (List.getElem?_eq_some_iff.1 hx).1; omega)
    | refine okOut ?_
    | refine okRet ?_
    | (refine endBool (.inr rfl) rfl ?_; have hl := eqB_no hx hy (by rw [entry_eqB]; simp_all); exact hl.symm; done)
    | (have hl := eqB_all hn (by simp at h; omega) he; refine endBool (.inr rfl) rfl ?_; exact hl.symm; done)
theorem rProof_s [Wd] (a b : ProofD) (ha : dProof.ok a) (hb : dProof.ok b) : FnP Tryz.prog 190 [.agg (cProof a), .agg (cProof b)] (.bool (eqB a b)) := by
  have la : a.record.length ≤ 4194304 := ha.2.2.1
  have lb : b.record.length ≤ 4194304 := hb.2.2.1
  refine mkS 104 [] Tryz.func190 rfl (by kernel_rfl) ?_
  repeat'
    (conv => arg 2; whnf)
    first
    | refine okAsk (by kernel_rfl) ?_
    | refine okBrT ?_
    | refine okBrF ?_
    | refine okBr (fun h => ?_) (fun h => ?_)
    | refine okByts a.record rfl ?_
    | refine okByts b.record rfl ?_
    | refine okAsk (by omega) ?_
    | refine okFn (rCert_s a.cert b.cert ha.2.2.2.2.2.2.2 hb.2.2.2.2.2.2.2) rfl (Cos.refl _) ?_
    | (refine endBool (.inr rfl) rfl ?_; rw [proof_eqB]; simp_all [← decE]; done)
    | (refine endBool (.inr rfl) rfl ?_; rw [proof_eqB, eqB_len (l := a.headers) (k := b.headers) (by simp at h; omega)]; simp; done)
    | (refine endBool (.inr rfl) rfl ?_; rw [proof_eqB, eqB_len (l := a.path) (k := b.path) (by simp at h; omega)]; simp; done)
    | (exfalso; simp_all; done)
  have HL : a.headers.length ≤ 4194304 := ha.2.2.2.1.1
  have hl := ha.2.2.2.1
  have hk := hb.2.2.2.1
  have hn : a.headers.length = b.headers.length := by
    have e : (a.headers.length : Int) = b.headers.length := by simp_all
    omega
  refine okLoop (α := Nat) (fun q => ⟨[(5, .int .i64 q), (2, .ptr 0 0), (3, .ptr 1 0)], [.cells 120 (cProof a), .cells 120 (cProof b)]⟩) (fun q => q ≤ a.headers.length ∧ a.headers.take q = b.headers.take q) (fun q => a.headers.length - q) 0 ⟨Nat.zero_le _, rfl⟩ (Sv.mk' [0, 1] rfl ⟨⟨rfl, rfl⟩, ⟨rfl, rfl⟩, trivial⟩ ⟨rfl, rfl, rfl, trivial⟩) ?_
  rintro q ⟨hq, he⟩
  repeat'
    (conv => arg 2; whnf)
    first
    | refine okAsk (by kernel_rfl) ?_
    | refine okBrT ?_
    | refine okBrF ?_
    | refine okBr (fun h => ?_) (fun h => ?_)
    | refine okNthMap (l := a.headers) (by simp at h; omega) (fun x hx => ?_)
    | refine okNthMap (l := b.headers) (by simp at h; omega) (fun y hy => ?_)
    | refine okWrap (w64 (by simp at h hq; omega) (by have := HL; simp at h hq; omega)) ?_
    | refine okAgain (q + 1) (Sv.mk' [0, 1] rfl ⟨⟨rfl, rfl⟩, ⟨rfl, rfl⟩, trivial⟩ ⟨rfl, rfl, rfl, trivial⟩) ⟨by have := (List.getElem?_eq_some_iff.1 hx).1; omega, eqB_go hx hy (by rw [← head_eqB]; rw [Bool.true_and] at h; first | exact (Bool.not_eq_true' _).mp h | exact (Bool.not_eq_false' _).mp h) he⟩ (by have := (List.getElem?_eq_some_iff.1 hx).1; omega)
    | refine okOut ?_
    | refine okRet ?_
    | (refine endBool (.inr rfl) rfl ?_; have hl := eqB_no hx hy (by rw [← head_eqB]; rw [Bool.true_and] at h; first | exact (Bool.not_eq_true' _).mp h | exact (Bool.not_eq_false' _).mp h); rw [proof_eqB, hl]; simp; done)
    | (have hl := eqB_all hn (by simp at h; omega) he; refine endBool (.inr rfl) rfl ?_; rw [proof_eqB]; simp_all [← decE]; done)
  have hl0 := eqB_all hn (by simp at h; omega) he
  clear hq he h
  have HL : a.path.length ≤ 4194304 := ha.2.2.2.2.2.2.1.1
  have hl := ha.2.2.2.2.2.2.1
  have hk := hb.2.2.2.2.2.2.1
  have hn : a.path.length = b.path.length := by
    have e : (a.path.length : Int) = b.path.length := by simp_all
    omega
  refine okLoop (α := Nat) (fun q => ⟨[(6, .int .i64 q), (2, .ptr 0 0), (3, .ptr 1 0)], [.cells 120 (cProof a), .cells 120 (cProof b)]⟩) (fun q => q ≤ a.path.length ∧ a.path.take q = b.path.take q) (fun q => a.path.length - q) 0 ⟨Nat.zero_le _, rfl⟩ (Sv.mk' [0, 1] rfl ⟨⟨rfl, rfl⟩, ⟨rfl, rfl⟩, trivial⟩ ⟨rfl, rfl, rfl, trivial⟩) ?_
  rintro q ⟨hq, he⟩
  repeat'
    (conv => arg 2; whnf)
    first
    | refine okAsk (by kernel_rfl) ?_
    | refine okBrT ?_
    | refine okBrF ?_
    | refine okBr (fun h => ?_) (fun h => ?_)
    | refine okNthMap (l := a.path) (by simp at h; omega) (fun x hx => ?_)
    | refine okNthMap (l := b.path) (by simp at h; omega) (fun y hy => ?_)
    | refine okWrap (w64 (by simp at h hq; omega) (by have := HL; simp at h hq; omega)) ?_
    | refine okAgain (q + 1) (Sv.mk' [0, 1] rfl ⟨⟨rfl, rfl⟩, ⟨rfl, rfl⟩, trivial⟩ ⟨rfl, rfl, rfl, trivial⟩) ⟨by have := (List.getElem?_eq_some_iff.1 hx).1; omega, eqB_go hx hy (by rw [← beqE]; simpa using h) he⟩ (by have := (List.getElem?_eq_some_iff.1 hx).1; omega)
    | refine okOut ?_
    | refine okRet ?_
    | (refine endBool (.inr rfl) rfl ?_; have hl := eqB_no hx hy (by rw [← beqE]; simpa using h); rw [proof_eqB, hl]; simp; done)
    | (have hl := eqB_all hn (by simp at h; omega) he; refine endBool (.inr rfl) rfl ?_; rw [proof_eqB]; simp_all [← decE]; done)
theorem rMsg_s [Wd] (a b : MsgD) (ha : dMsg.ok a) (hb : dMsg.ok b) : FnP Tryz.prog 108 [.agg (cMsg a), .agg (cMsg b)] (.bool (eqB a b)) := by
  have la : a.state.length ≤ 4194304 := ha.2.2.2.2.2.2.2.2.2.2.2.2.1
  have lb : b.state.length ≤ 4194304 := hb.2.2.2.2.2.2.2.2.2.2.2.2.1
  refine mkS 148 [] Tryz.func108 rfl (by kernel_rfl) ?_
  repeat'
    (conv => arg 2; whnf)
    first
    | refine okAsk (by kernel_rfl) ?_
    | refine okBrT ?_
    | refine okBrF ?_
    | refine okBr (fun h => ?_) (fun h => ?_)
    | refine okByts a.state rfl ?_
    | refine okByts b.state rfl ?_
    | refine okAsk (by omega) ?_
    | refine okFn (rBatch_s a.batch b.batch ha.2.2.2.2.2.2.2.2.1 hb.2.2.2.2.2.2.2.2.1) rfl (Cos.refl _) ?_
    | refine okFn (rCert_s a.cert b.cert ha.2.2.2.2.2.2.2.2.2.1 hb.2.2.2.2.2.2.2.2.2.1) rfl (Cos.refl _) ?_
    | refine okFn (rEntries_s a.entries b.entries ha.2.2.2.2.2.2.2.2.2.2.2.1 hb.2.2.2.2.2.2.2.2.2.2.2.1) rfl (Cos.refl _) ?_
    | refine okFn (rProof_s a.proof b.proof ha.2.2.2.2.2.2.2.2.2.2.2.2.2.2.2.1 hb.2.2.2.2.2.2.2.2.2.2.2.2.2.2.2.1) rfl (Cos.refl _) ?_
    | (refine endBool (.inr rfl) rfl ?_; rw [msg_eqB]; simp_all [← decE]; done)
    | (refine endBool (.inr rfl) rfl ?_; rw [msg_eqB, eqB_len (l := a.changes) (k := b.changes) (by simp at h; omega)]; simp; done)
    | (refine endBool (.inr rfl) rfl ?_; rw [msg_eqB]; cases hsg : (a.sign.key == b.sign.key) <;> simp_all; done)
    | (refine endBool (.inr rfl) rfl ?_; rw [msg_eqB]; cases hsg : (a.result.err == b.result.err) <;> simp_all; done)
    | (exfalso; simp_all; done)
  have HL : a.changes.length ≤ 4194304 := ha.2.2.2.2.2.2.2.2.2.2.1.1
  have hl := ha.2.2.2.2.2.2.2.2.2.2.1
  have hk := hb.2.2.2.2.2.2.2.2.2.2.1
  have hn : a.changes.length = b.changes.length := by
    have e : (a.changes.length : Int) = b.changes.length := by simp_all
    omega
  refine okLoop (α := Nat) (fun q => ⟨[(5, .int .i64 q), (2, .ptr 0 0), (3, .ptr 1 0)], [.cells 122 (cMsg a), .cells 122 (cMsg b)]⟩) (fun q => q ≤ a.changes.length ∧ a.changes.take q = b.changes.take q) (fun q => a.changes.length - q) 0 ⟨Nat.zero_le _, rfl⟩ (Sv.mk' [0, 1] rfl ⟨⟨rfl, rfl⟩, ⟨rfl, rfl⟩, trivial⟩ ⟨rfl, rfl, rfl, trivial⟩) ?_
  rintro q ⟨hq, he⟩
  repeat'
    (conv => arg 2; whnf)
    first
    | refine okAsk (by kernel_rfl) ?_
    | refine okBrT ?_
    | refine okBrF ?_
    | refine okBr (fun h => ?_) (fun h => ?_)
    | refine okNthMap (l := a.changes) (by simp at h; omega) (fun x hx => ?_)
    | refine okNthMap (l := b.changes) (by simp at h; omega) (fun y hy => ?_)
    | refine okFn (rChange_s x y (hl.2 x (List.mem_of_getElem? hx)) (hk.2 y (List.mem_of_getElem? hy))) rfl (Cos.refl _) ?_
    | refine okWrap (w64 (by simp at h hq; omega) (by have := HL; simp at h hq; omega)) ?_
    | refine okAgain (q + 1) (Sv.mk' [0, 1] rfl ⟨⟨rfl, rfl⟩, ⟨rfl, rfl⟩, trivial⟩ ⟨rfl, rfl, rfl, trivial⟩) ⟨by have := (List.getElem?_eq_some_iff.1 hx).1; omega, eqB_go hx hy (by simpa using h) he⟩ (by have := (List.getElem?_eq_some_iff.1 hx).1; omega)
    | refine okOut ?_
    | refine okRet ?_
    | (refine endBool (.inr rfl) rfl ?_; have hl := eqB_no hx hy (by simpa using h); rw [msg_eqB, hl]; simp; done)
    | (have hl := eqB_all hn (by simp at h; omega) he; refine endBool (.inr rfl) rfl ?_; rw [msg_eqB]; simp_all [← decE]; done)
end Go.Proofs.YteaggenihhaajaaGreat

/- From contracts over data back to contracts over readings; what yields new bytes. -/
namespace Go.Proofs.YteaggenihhaajaaGreat
open Go.RowKit
set_option linter.unusedVariables false

/-- data lie in blocks that are -/
theorem Dr.lt {I : Nat → Prop} {w : World} {v : Value} {d : D} (h : Dr I w v d) : Dr (fun b => I b ∧ b < w.heap.size) w v d := by
  induction h with
  | bool b => exact .bool b
  | int k n => exact .int k n
  | str s => exact .str s
  | nils => exact .nils
  | nilp => exact .nilp
  | nilf => exact .nilf
  | nilm => exact .nilm
  | list A cap n l xs U hl0 hl hm hnone hlen hA h1 hU ih =>
    exact .list A cap n l xs U hl0 hl hm hnone hlen (fun h0 => by
      obtain ⟨b, off, e, k1, k2, k3⟩ := hA h0
      exact ⟨b, off, e, k1, ⟨k2, k1⟩, k3⟩) h1 ih
  | ref b off cs U hI hb hc h1 hU ih => exact .ref b off cs U ⟨hI, hb⟩ hb hc h1 ih
  | agg vs ds hl h1 h ih => exact .agg vs ds hl h1 ih
  | tup vs ds hl h ih => exact .tup vs ds hl ih
  | fn f n vs ds hl h ih => exact .fn f n vs ds hl ih
theorem Drs.lt {I : Nat → Prop} {w : World} {vs : List Value} {ds : List D} (h : Drs I w vs ds) : Drs (fun b => I b ∧ b < w.heap.size) w vs ds :=
  ⟨h.1, fun i v d h1 h2 => (h.2 i v d h1 h2).lt⟩
/-- what a function that only computes answers, over data -/
theorem FnP.calls [Wd] {P : Program} {f : FuncId} {ar : List D} {r : D} (hF : FnP P f ar r) {I : Nat → Prop} {w : World} {vs : List Value} (hd : Drs I w vs ar) (hW : Wd.W (fun b => I b ∧ b < w.heap.size) w) :
    Calls P f vs.toArray w fun e w' => ∃ v I', e = .returned v ∧ B w w' ∧ Vr I' [] w' v r ∧ (∀ b, I' b → (I b ∧ b < w.heap.size) ∨ w.heap.size ≤ b) ∧ ∀ b, I' b → b < w'.heap.size := by
  have hd' := hd.lt
  have hD : Den (fun b => I b ∧ b < w.heap.size) [] w [] := ⟨rfl, fun b h => h.2, fun o ao p h => by simp at h, fun o ao p b h => by simp at h, fun o o' ao ao' p p' b h => by simp at h⟩
  have hn : ∀ b, ¬ Owned [] [] b := fun b ⟨o, ao, p, h, _⟩ => by simp at h
  refine (hF.2 w _ [] vs hW hD ⟨hd'.1, fun i v d h1 h2 => .rd (hd'.2 i v d h1 h2)⟩).mono ?_
  rintro e w' ⟨v, I', g', r', h', rfl, ⟨rfl, rfl⟩, hD', hv, hx, i1, i2, ow, gk⟩
  have hg : g' = [] := List.eq_nil_of_length_eq_zero hD'.len
  subst hg
  refine ⟨v, I', rfl, hx.to_B (fun b _ ho => hn b ho), hv, fun b hb => ?_, hD'.inn⟩
  rcases i2 b hb with k | k | k
  · exact .inl k
  · exact absurd k (hn b)
  · exact .inr k
theorem FnP.callsBool [Wd] {P : Program} {f : FuncId} {ar : List D} {n : Bool} (hF : FnP P f ar (.bool n)) {I : Nat → Prop} {w : World} {vs : List Value} (hd : Drs I w vs ar) (hW : Wd.W (fun b => I b ∧ b < w.heap.size) w) :
    Calls P f vs.toArray w fun e w' => e = .returned (.bool n) ∧ B w w' :=
  (hF.calls hd hW).mono (by
    rintro e w' ⟨v, I', rfl, hb, hv, _⟩
    exact ⟨by rw [hv.bool_inv], hb⟩)
/-- a struct of readings as an argument -/
theorem Lk.arg {α : Type} {T : Ty α} {A : Dt α} (L : Lk T A) {inn : Nat → Prop} {w : World} {cs : List Value} {a : α} (h : T.rd inn w cs a) : Drs inn w [.agg cs.toArray] [.agg (A.c a)] := by
  obtain ⟨h1, _, h3⟩ := L.to h
  exact .one (.agg cs _ h1.1 h3 h1.2)
end Go.Proofs.YteaggenihhaajaaGreat

/- Which operations, messages and acts are the same, over readings. -/
namespace Go.Proofs.YteaggenihhaajaaGreat
open Go.RowKit
set_option linter.unusedVariables false

theorem Lk.arg2 {α : Type} {T : Ty α} {A : Dt α} (L : Lk T A) {inn inn' : Nat → Prop} {w : World} {cs ds : List Value} {a b : α} (h : T.rd inn w cs a) (k : T.rd inn' w ds b) : Drs (fun g => inn g ∨ inn' g) w [.agg cs.toArray, .agg ds.toArray] [.agg (A.c a), .agg (A.c b)] := by
  obtain ⟨h1, _, h3⟩ := L.to (T.mono (inn' := fun g => inn g ∨ inn' g) h (fun g hg => .inl hg))
  obtain ⟨k1, _, k3⟩ := L.to (T.mono (inn' := fun g => inn g ∨ inn' g) k (fun g hg => .inr hg))
  exact (Drs.one (.agg cs _ h1.1 h3 h1.2)).append (Drs.one (.agg ds _ k1.1 k3 k1.2))
section
variable {inn inn' : Nat → Prop} {w : World} {cs ds : List Value}
theorem oSame_c {a b : OpD} (h : tOp.rd inn w cs a) (k : tOp.rd inn' w ds b) : Calls Tryz.prog 133 #[.agg cs.toArray, .agg ds.toArray] w fun e w' => e = .returned (.bool (sameOp a b)) ∧ B w w' := by
  rw [sameOp_eqB]
  exact (oSame_s a b (LkOp.to h).2.1 (LkOp.to k).2.1).callsBool (LkOp.arg2 h k) trivial
end
end Go.Proofs.YteaggenihhaajaaGreat

/- Operations: what may be (op.Check). -/
namespace Go.Proofs.YteaggenihhaajaaGreat
open Go.RowKit Go.Deep
set_option linter.unusedVariables false

theorem chk1_c {w : World} {v : Value} {a : List UInt8} (h : Bs w v a) : Calls Tryz.prog 330 #[v] w fun e w' => e = .returned (.bool (decide (64 < a.length))) ∧ w = w' := by
  obtain ⟨A, c, rfl⟩ := h.rd.slice
  have hl := h.len
  have hl2 : (a.length : Int) ≤ 9223372036854775807 := by unfold big at hl; omega
  clear h hl
  generalize a.length = n at *
  by_cases hn : 64 < n
  · have g : (64 : Int) < n := by omega
    have E := Lib.hid (decide_eq_true hn)
    clear hn
    go_enter Tryz.func330, Tryz.ntmps330
    go_wp2
    go_ret
    exact ⟨by simp [E.out], rfl⟩
  · have g : ¬ (64 : Int) < n := by omega
    have E := Lib.hid (decide_eq_false hn)
    clear hn
    go_enter Tryz.func330, Tryz.ntmps330
    go_wp2
    go_ret
    exact ⟨by simp [E.out], rfl⟩
set_option maxRecDepth 20000 in
set_option maxHeartbeats 2000000 in
theorem index_c {inn : Nat → Prop} {w : World} {v : Value} {s : List (List UInt8)} (h : (tL tY).rd inn w [v] s) :
    Calls Tryz.prog 335 #[v, .func (.func 330) #[] #[]] w fun e w' => ∃ k : Int, e = .returned (.int .i64 k) ∧ decide (0 ≤ k) = (s.any fun r => decide (64 < r.length)) ∧ w = w' := by
  obtain ⟨A, c, e1, hs⟩ := tL.slice h
  injection e1 with e1 _
  subst e1
  have HR := Lib.hid h
  obtain ⟨l, hl0⟩ : ∃ l, s.length = l := ⟨_, rfl⟩
  have HL0 := Lib.hid hl0
  rw [hl0] at hs ⊢
  clear h hl0
  go_enter Tryz.func335, Tryz.ntmps335
  go_wp2_with fail
  go_loop [5, 8] (fun _ i => ∃ q : Nat, q ≤ l ∧ i = .int .i64 q ∧ Hid (∀ j x, j < q → s[j]? = some x → ¬ 64 < x.length)) (fun _ i => l - (intOf i).toNat)
  case atStart => exact ⟨0, Nat.zero_le _, rfl, fun j x h => by omega⟩
  case round =>
    obtain ⟨q, hq, rfl, HP⟩ := hrel
    by_cases hlt : q < l
    · obtain ⟨x, hx⟩ : ∃ x, s[q]? = some x := ⟨_, List.getElem?_eq_getElem (by have := HL0.out; omega)⟩
      obtain ⟨_, b, off, cs, rfl, r1, k1⟩ := tL.at HR.out hx
      obtain ⟨u1, rfl⟩ := len1 (tY.len r1)
      have c1 := k1 0 _ rfl
      simp only [show tY.n = 1 from rfl, Nat.mul_one, Nat.add_zero] at c1
      have HC := Lib.hid (chk1_c (tY.bs r1))
      have HS := Lib.hid hx
      have hqi : (q : Int) < l := by omega
      clear r1 k1 hx
      by_cases e1 : 64 < x.length
      · rw [decide_eq_true e1] at HC
        have E := Lib.hid (show decide ((0 : Int) ≤ q) = (s.any fun r => decide (64 < r.length)) from by
          rw [decide_eq_true (by omega : (0 : Int) ≤ q)]
          symm
          rw [List.any_eq_true]
          exact ⟨x, List.mem_of_getElem? HS.out, decide_eq_true e1⟩)
        clear e1
        go_wp2_with (first | (go_at_call 330; (with_reducible refine HC.out.mono ?_); rintro e w1 ⟨rfl, rfl⟩))
        go_ret
        exact ⟨_, rfl, E.out, rfl⟩
      · rw [decide_eq_false e1] at HC
        have E := Lib.hid e1
        clear e1
        go_wp2_with (first | (go_at_call 330; (with_reducible refine HC.out.mono ?_); rintro e w1 ⟨rfl, rfl⟩))
        go_round
        case rel => exact ⟨q + 1, by omega, by go_num, fun j y hj hy => by
          by_cases e : j = q
          · rw [e, HS.out] at hy; injection hy with hy; rw [← hy]; exact E.out
          · exact HP.out j y (by omega) hy⟩
        case measure => simp [intOf]; omega
    · have hqi : ¬ (q : Int) < l := by omega
      have E := Lib.hid (show decide ((0 : Int) ≤ -1) = (s.any fun r => decide (64 < r.length)) from by
        rw [decide_eq_false (by omega : ¬ (0 : Int) ≤ -1)]
        symm
        rw [List.any_eq_false]
        intro x hx
        obtain ⟨j, hj⟩ := List.getElem?_of_mem hx
        have hjl : j < s.length := by
          rcases Nat.lt_or_ge j s.length with h' | h'
          · exact h'
          · rw [List.getElem?_eq_none h'] at hj; cases hj
        simpa using HP.out j x (by have := HL0.out; omega) hj)
      go_wp2_with fail
      go_ret
      exact ⟨_, rfl, E.out, rfl⟩
theorem contains_c {inn : Nat → Prop} {w : World} {v : Value} {s : List (List UInt8)} (h : (tL tY).rd inn w [v] s) :
    Calls Tryz.prog 331 #[v, .func (.func 330) #[] #[]] w fun e w' => e = .returned (.bool (s.any fun r => decide (64 < r.length))) ∧ w = w' := by
  have HI := Lib.hid (index_c h)
  clear h
  generalize (s.any fun r => decide (64 < r.length)) = z at *
  go_enter Tryz.func331, Tryz.ntmps331
  go_wp2_with (first | (go_at_call 335; (with_reducible refine HI.out.mono ?_); rintro e w1 ⟨k, rfl, hk, rfl⟩; rcases (show (z = true ∧ 0 ≤ k) ∨ (z = false ∧ ¬ 0 ≤ k) from by cases z <;> simp at hk <;> simp <;> omega) with ⟨rfl, hk2⟩ | ⟨rfl, hk2⟩))
  all_goals
    go_ret
    exact ⟨by simp, rfl⟩
theorem Blk.new2 (w : World) (o : Obj) (t : TypeId) (cs : Array Value) : Blk ((w.alloc o).alloc (.cells cs t)) (w.heap.size + 1) t cs := by simpa using Blk.new (w.alloc o) t cs
/-- a function whose results are a cell's row and a slot ends -/
theorem post_cell_tmp {P : Program} {fn : Func} {R : Ending → World → Prop} {a : Act} {w : World} {p u : Tmp} {ty t : TypeId} {g : Nat} {cs : Array Value} {d : TypeDesc} (h : fn.results = #[.cell p ty, .tmp u])
    (hp : a.tmps.getD p undef = .pointer (some ⟨g, 0, none⟩)) (hg : Blk w g t cs) (hu : P.underlying ty = some d) (hd : (match d with | .struct _ | .array _ _ => true | _ => false) = true) (hi : (P.info? ty).map (·.size) = some cs.size)
    (hdf : a.defers = []) (hR : R (.returned (.tuple #[.agg cs, a.tmps.getD u undef])) w) : bodyPost P fn R .ret a w := by
  refine bodyPost_ret (v := .tuple #[.agg cs, a.tmps.getD u undef]) ?_ hdf hR
  rw [results_cell_tmp h, hp]
  simp only [asAddr, Sem.run_pure, Result.andThen]
  rw [run_loadVar_row (P := P) w g t ty cs (0, 0) d hg hu hd hi]
set_option maxRecDepth 20000 in
set_option maxHeartbeats 4000000 in
theorem only_c {inn : Nat → Prop} {w : World} {cs : List Value} {a : OpD} (h : tOp.rd inn w cs a) :
    Calls Tryz.prog 329 #[.agg cs.toArray] w fun e w' => ∃ ds : List Value, e = .returned (.tuple #[.agg ds.toArray, .bool (kindOk a)]) ∧ tOp.rd inn w' ds (onlyF a) ∧ B w w' := by
  obtain ⟨v5, rfl, a1, a2, a3, a4, a5⟩ := tOp.parts h
  obtain ⟨kind, topic, group, offset, records⟩ := a
  simp only at *
  have H2 := Lib.hid a2
  have H3 := Lib.hid a3
  have H4 := Lib.hid a4
  have H5 := Lib.hid (fun w' (hb : B w w') => (tL tY).later a5 hb)
  have HN := Lib.hid (fun w' => show (tL tY).rd inn w' [.slice none 0 0] [] from ⟨none, 0, rfl, Nat.le_refl _, by unfold maxLen; omega, fun _ => ⟨rfl, rfl⟩, by simp, fun h0 => by simp at h0⟩)
  have hc : kind = 0 ∨ kind = 1 ∨ kind = 2 ∨ kind = 3 ∨ kind = 4 ∨ (kind < 0 ∨ 4 < kind) := by omega
  obtain ⟨A5, c5, e5, _⟩ := tL.slice a5
  injection e5 with e5 _
  subst e5
  clear h a2 a3 a4 a5
  rcases hc with rfl | rfl | rfl | rfl | rfl | hc
  · clear a1
    go_enter Tryz.func329, Tryz.ntmps329
    go_wp2
    exact post_cell_tmp rfl rfl ((Blk.new2 _ _ _ _).alloc _) Tryz.underlying80 rfl (by kernel_rfl) rfl ⟨_, rfl, tOp.mk (s := ⟨0, [], [], 0, []⟩) (by simp only; omega) (by simp) (by simp) (by simp) (HN.out _), BB.out⟩
  · clear a1
    go_enter Tryz.func329, Tryz.ntmps329
    go_wp2
    exact post_cell_tmp rfl rfl ((Blk.new2 _ _ _ _).alloc _) Tryz.underlying80 rfl (by kernel_rfl) rfl ⟨_, rfl, tOp.mk (s := ⟨1, topic, [], 0, []⟩) (by simp only; omega) H2.out (by simp) (by simp) (HN.out _), BB.out⟩
  · clear a1
    go_enter Tryz.func329, Tryz.ntmps329
    go_wp2
    go_region_with (fail)
    all_goals
      go_wp2
      exact post_cell_tmp rfl rfl ((Blk.new2 _ _ _ _).alloc _) Tryz.underlying80 rfl (by kernel_rfl) rfl ⟨_, rfl, tOp.mk (s := ⟨2, topic, [], 0, records⟩) (by simp only; omega) H2.out (by simp) (by simp) (H5.out _ BB.out), BB.out⟩
  · clear a1
    go_enter Tryz.func329, Tryz.ntmps329
    go_wp2
    go_region_with (fail)
    all_goals
      go_wp2
      exact post_cell_tmp rfl rfl ((Blk.new2 _ _ _ _).alloc _) Tryz.underlying80 rfl (by kernel_rfl) rfl ⟨_, rfl, tOp.mk (s := ⟨3, topic, group, offset, []⟩) (by simp only; omega) H2.out H3.out H4.out (HN.out _), BB.out⟩
  · clear a1
    go_enter Tryz.func329, Tryz.ntmps329
    go_wp2
    go_region_with (fail)
    all_goals
      go_wp2
      exact post_cell_tmp rfl rfl ((Blk.new2 _ _ _ _).alloc _) Tryz.underlying80 rfl (by kernel_rfl) rfl ⟨_, rfl, tOp.mk (s := ⟨4, topic, [], offset, []⟩) (by simp only; omega) H2.out (by simp) H4.out (HN.out _), BB.out⟩
  · have g0 : (kind == 0) = false := by simp; omega
    have g1 : (kind == 1) = false := by simp; omega
    have g2 : (kind == 2) = false := by simp; omega
    have g3 : (kind == 3) = false := by simp; omega
    have g4 : (kind == 4) = false := by simp; omega
    have HA := Lib.hid a1
    have EK := Lib.hid (show kindOk ⟨kind, topic, group, offset, records⟩ = false from decide_eq_false (by simp only; omega))
    have EO := Lib.hid (show onlyF ⟨kind, topic, group, offset, records⟩ = ⟨kind, [], [], 0, []⟩ from by unfold onlyF; simp only; rw [if_neg (by omega), if_neg (by omega), if_neg (by omega), if_neg (by omega)])
    clear hc a1
    go_enter Tryz.func329, Tryz.ntmps329
    go_wp2
    refine post_cell_tmp rfl rfl ((Blk.new2 _ _ _ _).alloc _) Tryz.underlying80 rfl (by kernel_rfl) rfl ?_
    rw [EK.out, EO.out]
    exact ⟨_, rfl, tOp.mk (s := ⟨kind, [], [], 0, []⟩) HA.out (by simp) (by simp) (by simp) (HN.out _), BB.out⟩
end Go.Proofs.YteaggenihhaajaaGreat
