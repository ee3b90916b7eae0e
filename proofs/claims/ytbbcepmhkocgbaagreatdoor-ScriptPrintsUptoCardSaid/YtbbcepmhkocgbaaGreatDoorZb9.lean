/- Lemmas and contracts, part 9. -/
import Derived.Test.YtbbcepmhkocgbaaGreatDoorZb8
import Derived.Test.YtbbcepmhkocgbaaGreatDoorProg
/- The program's types, as far as a walk asks: a search tree. -/
namespace Go.Proofs.YtbbcepmhkocgbaaGreatDoor
def tyTab : TT := (.node (.node (.node (.node (.node (.node (.node (.node .nil 1 ⟨1, 8, [.nilf], .other⟩ .nil) 2 ⟨1, 8, [.int .i64 0], .int .i64⟩ (.node .nil 3 ⟨1, 8, [.int .i64 0], .int .i64⟩ .nil)) 4 ⟨1, 1, [.bool false], .bool⟩ (.node (.node .nil 5 ⟨1, 1, [.int .u8 0], .int .u8⟩ .nil) 6 ⟨1, 1, [.int .u8 0], .int .u8⟩ .nil)) 7 ⟨4, 24, [.int .i64 0, .int .i64 0, .bool false, .int .u8 0], .struct [(0, 2), (1, 3), (2, 4), (3, 6)]⟩ (.node (.node (.node .nil 8 ⟨4, 24, [.int .i64 0, .int .i64 0, .bool false, .int .u8 0], .struct [(0, 2), (1, 3), (2, 4), (3, 6)]⟩ .nil) 9 ⟨1, 16, [.str []], .str⟩ (.node .nil 10 ⟨1, 16, [.str []], .str⟩ .nil)) 11 ⟨1, 16, [.str []], .str⟩ (.node (.node .nil 12 ⟨1, 8, [.int .u64 0], .int .u64⟩ .nil) 15 ⟨1, 8, [.nilp], .ptr⟩ .nil))) 16 ⟨1, 8, [.nilp], .ptr⟩ (.node (.node (.node (.node .nil 17 ⟨1, 8, [.nilp], .ptr⟩ .nil) 21 ⟨1, 4, [.int .i32 0], .int .i32⟩ (.node .nil 22 ⟨1, 2, [.int .u16 0], .int .u16⟩ .nil)) 23 ⟨1, 2, [.int .u16 0], .int .u16⟩ (.node (.node .nil 24 ⟨5, 40, [.int .i64 0, .int .u16 0, .int .u16 0, .int .i64 0, .str []], .struct [(0, 3), (1, 23), (2, 23), (3, 3), (4, 9)]⟩ .nil) 25 ⟨5, 40, [.int .i64 0, .int .u16 0, .int .u16 0, .int .i64 0, .str []], .struct [(0, 3), (1, 23), (2, 23), (3, 3), (4, 9)]⟩ .nil)) 26 ⟨1, 24, [.nils], .slice 58⟩ (.node (.node (.node .nil 27 ⟨6, 64, [.int .i64 0, .int .u16 0, .int .u16 0, .int .i64 0, .str [], .nils], .struct [(0, 25), (5, 26)]⟩ .nil) 28 ⟨6, 64, [.int .i64 0, .int .u16 0, .int .u16 0, .int .i64 0, .str [], .nils], .struct [(0, 25), (5, 26)]⟩ .nil) 29 ⟨1, 8, [.nilf], .other⟩ (.node (.node .nil 30 ⟨1, 8, [.int .i64 0], .int .i64⟩ .nil) 32 ⟨1, 8, [.nilf], .other⟩ .nil)))) 33 ⟨1, 8, [.nilf], .other⟩ (.node (.node (.node (.node (.node .nil 34 ⟨1, 24, [.nils], .slice 48⟩ .nil) 35 ⟨5, 72, [.int .i64 0, .str [], .str [], .int .i64 0, .nils], .struct [(0, 3), (1, 9), (2, 9), (3, 2), (4, 34)]⟩ (.node .nil 36 ⟨5, 72, [.int .i64 0, .str [], .str [], .int .i64 0, .nils], .struct [(0, 3), (1, 9), (2, 9), (3, 2), (4, 34)]⟩ .nil)) 37 ⟨1, 24, [.nils], .slice 5⟩ (.node (.node .nil 38 ⟨1, 8, [.int .i64 0], .int .i64⟩ .nil) 39 ⟨2, 16, [.int .i64 0, .int .i64 0], .struct [(0, 30), (1, 2)]⟩ .nil)) 40 ⟨2, 16, [.int .i64 0, .int .i64 0], .struct [(0, 30), (1, 2)]⟩ (.node (.node (.node .nil 41 ⟨1, 24, [.nils], .slice 105⟩ .nil) 42 ⟨1, 24, [.nils], .slice 105⟩ .nil) 43 ⟨1, 24, [.nils], .slice 54⟩ (.node (.node .nil 44 ⟨3, 40, [.int .i64 0, .int .i64 0, .nils], .struct [(0, 2), (1, 38), (2, 43)]⟩ .nil) 45 ⟨3, 40, [.int .i64 0, .int .i64 0, .nils], .struct [(0, 2), (1, 38), (2, 43)]⟩ .nil))) 46 ⟨1, 24, [.nils], .slice 90⟩ (.node (.node (.node (.node .nil 47 ⟨1, 24, [.nils], .slice 109⟩ .nil) 48 ⟨1, 24, [.nils], .slice 5⟩ (.node .nil 49 ⟨1, 24, [.nils], .slice 111⟩ .nil)) 50 ⟨1, 24, [.nils], .slice 38⟩ (.node (.node .nil 51 ⟨10, 152, [.str [], .int .i64 0, .nils, .nils, .int .i64 0, .int .i64 0, .nils, .int .i64 0, .int .i64 0, .nils], .struct [(0, 9), (1, 2), (2, 48), (3, 49), (4, 3), (5, 3), (6, 50), (7, 45)]⟩ .nil) 52 ⟨10, 152, [.str [], .int .i64 0, .nils, .nils, .int .i64 0, .int .i64 0, .nils, .int .i64 0, .int .i64 0, .nils], .struct [(0, 9), (1, 2), (2, 48), (3, 49), (4, 3), (5, 3), (6, 50), (7, 45)]⟩ .nil)) 53 ⟨2, 16, [.int .i64 0, .int .i64 0], .struct [(0, 3), (1, 38)]⟩ (.node (.node (.node .nil 54 ⟨2, 16, [.int .i64 0, .int .i64 0], .struct [(0, 3), (1, 38)]⟩ .nil) 55 ⟨30, 400, [.int .i64 0, .int .i64 0, .int .i64 0, .int .i64 0, .int .i64 0, .int .i64 0, .int .i64 0, .int .i64 0, .int .i64 0, .nils, .int .i64 0, .int .i64 0, .nils, .nils, .nils, .nils, .str [], .int .i64 0, .str [], .int .i64 0, .nils, .nils, .int .i64 0, .int .i64 0, .nils, .int .i64 0, .int .i64 0, .nils, .int .i64 0, .int .i64 0], .struct [(0, 3), (1, 3), (2, 2), (3, 2), (4, 38), (5, 3), (6, 2), (7, 40), (9, 42), (10, 45), (13, 46), (14, 47), (15, 37), (16, 9), (17, 2), (18, 52), (28, 54)]⟩ .nil) 56 ⟨30, 400, [.int .i64 0, .int .i64 0, .int .i64 0, .int .i64 0, .int .i64 0, .int .i64 0, .int .i64 0, .int .i64 0, .int .i64 0, .nils, .int .i64 0, .int .i64 0, .nils, .nils, .nils, .nils, .str [], .int .i64 0, .str [], .int .i64 0, .nils, .nils, .int .i64 0, .int .i64 0, .nils, .int .i64 0, .int .i64 0, .nils, .int .i64 0, .int .i64 0], .struct [(0, 3), (1, 3), (2, 2), (3, 2), (4, 38), (5, 3), (6, 2), (7, 40), (9, 42), (10, 45), (13, 46), (14, 47), (15, 37), (16, 9), (17, 2), (18, 52), (28, 54)]⟩ (.node (.node .nil 57 ⟨40, 528, [.int .i64 0, .int .i64 0, .int .i64 0, .int .i64 0, .str [], .str [], .int .i64 0, .nils, .nils, .int .i64 0, .int .i64 0, .int .i64 0, .int .i64 0, .int .i64 0, .int .i64 0, .int .i64 0, .int .i64 0, .int .i64 0, .nils, .int .i64 0, .int .i64 0, .nils, .nils, .nils, .nils, .str [], .int .i64 0, .str [], .int .i64 0, .nils, .nils, .int .i64 0, .int .i64 0, .nils, .int .i64 0, .int .i64 0, .nils, .int .i64 0, .int .i64 0, .bool false], .struct [(0, 3), (1, 3), (2, 3), (3, 36), (8, 37), (9, 56), (39, 4)]⟩ .nil) 58 ⟨40, 528, [.int .i64 0, .int .i64 0, .int .i64 0, .int .i64 0, .str [], .str [], .int .i64 0, .nils, .nils, .int .i64 0, .int .i64 0, .int .i64 0, .int .i64 0, .int .i64 0, .int .i64 0, .int .i64 0, .int .i64 0, .int .i64 0, .nils, .int .i64 0, .int .i64 0, .nils, .nils, .nils, .nils, .str [], .int .i64 0, .str [], .int .i64 0, .nils, .nils, .int .i64 0, .int .i64 0, .nils, .int .i64 0, .int .i64 0, .nils, .int .i64 0, .int .i64 0, .bool false], .struct [(0, 3), (1, 3), (2, 3), (3, 36), (8, 37), (9, 56), (39, 4)]⟩ .nil))))) 59 ⟨1, 8, [.nilf], .other⟩ (.node (.node (.node (.node (.node (.node .nil 61 ⟨1, 8, [.nilf], .other⟩ .nil) 62 ⟨1, 8, [.nilf], .other⟩ (.node .nil 63 ⟨1, 8, [.nilf], .other⟩ .nil)) 64 ⟨1, 8, [.nilf], .other⟩ (.node (.node .nil 65 ⟨1, 8, [.nilf], .other⟩ .nil) 66 ⟨1, 8, [.nilf], .other⟩ .nil)) 67 ⟨1, 8, [.nilf], .other⟩ (.node (.node (.node .nil 68 ⟨1, 8, [.nilp], .ptr⟩ .nil) 69 ⟨2, 32, [.nilp, .nils], .struct [(0, 68), (1, 37)]⟩ (.node .nil 70 ⟨2, 32, [.nilp, .nils], .struct [(0, 68), (1, 37)]⟩ .nil)) 74 ⟨1, 8, [.nilf], .other⟩ (.node (.node .nil 75 ⟨1, 8, [.nilf], .other⟩ .nil) 76 ⟨1, 24, [.nils], .slice 9⟩ .nil))) 78 ⟨1, 8, [.nilf], .other⟩ (.node (.node (.node (.node .nil 79 ⟨1, 8, [.nilf], .other⟩ .nil) 80 ⟨1, 8, [.nilf], .other⟩ (.node .nil 81 ⟨1, 8, [.int .u64 0], .int .u64⟩ .nil)) 82 ⟨1, 8, [.nilf], .other⟩ (.node (.node .nil 83 ⟨1, 8, [.nilf], .other⟩ .nil) 84 ⟨1, 8, [.nilf], .other⟩ .nil)) 85 ⟨1, 8, [.nilf], .other⟩ (.node (.node (.node .nil 86 ⟨1, 8, [.nilf], .other⟩ .nil) 87 ⟨1, 8, [.nilf], .other⟩ .nil) 88 ⟨1, 24, [.nils], .slice 114⟩ (.node (.node .nil 89 ⟨8, 96, [.int .i64 0, .int .i64 0, .int .i64 0, .int .i64 0, .nils, .nils, .int .i64 0, .int .i64 0], .struct [(0, 2), (1, 3), (2, 45), (5, 88), (6, 54)]⟩ .nil) 90 ⟨8, 96, [.int .i64 0, .int .i64 0, .int .i64 0, .int .i64 0, .nils, .nils, .int .i64 0, .int .i64 0], .struct [(0, 2), (1, 3), (2, 45), (5, 88), (6, 54)]⟩ .nil)))) 91 ⟨1, 8, [.nilf], .other⟩ (.node (.node (.node (.node (.node .nil 92 ⟨1, 8, [.nilf], .other⟩ .nil) 93 ⟨1, 8, [.nilp], .ptr⟩ (.node .nil 94 ⟨1, 8, [.nilf], .other⟩ .nil)) 96 ⟨1, 8, [.nilf], .other⟩ (.node (.node .nil 98 ⟨1, 8, [.nilf], .other⟩ .nil) 100 ⟨1, 8, [.nilf], .other⟩ .nil)) 101 ⟨1, 8, [.nilf], .other⟩ (.node (.node (.node .nil 102 ⟨7, 88, [.int .i64 0, .int .i64 0, .int .i64 0, .str [], .str [], .int .i64 0, .nils], .struct [(0, 3), (1, 2), (2, 36)]⟩ .nil) 103 ⟨7, 88, [.int .i64 0, .int .i64 0, .int .i64 0, .str [], .str [], .int .i64 0, .nils], .struct [(0, 3), (1, 2), (2, 36)]⟩ .nil) 104 ⟨9, 104, [.int .i64 0, .int .i64 0, .int .i64 0, .str [], .str [], .int .i64 0, .nils, .int .i64 0, .int .i64 0], .struct [(0, 103), (7, 54)]⟩ (.node (.node .nil 105 ⟨9, 104, [.int .i64 0, .int .i64 0, .int .i64 0, .str [], .str [], .int .i64 0, .nils, .int .i64 0, .int .i64 0], .struct [(0, 103), (7, 54)]⟩ .nil) 106 ⟨1, 8, [.nilf], .other⟩ .nil))) 107 ⟨1, 8, [.nilf], .other⟩ (.node (.node (.node (.node .nil 108 ⟨5, 56, [.int .i64 0, .int .i64 0, .nils, .int .i64 0, .int .i64 0], .struct [(0, 2), (1, 2), (2, 42), (3, 54)]⟩ .nil) 109 ⟨5, 56, [.int .i64 0, .int .i64 0, .nils, .int .i64 0, .int .i64 0], .struct [(0, 2), (1, 2), (2, 42), (3, 54)]⟩ (.node .nil 110 ⟨5, 40, [.int .i64 0, .int .i64 0, .int .i64 0, .int .i64 0, .int .i64 0], .struct [(0, 2), (1, 38), (2, 38), (3, 38), (4, 38)]⟩ .nil)) 111 ⟨5, 40, [.int .i64 0, .int .i64 0, .int .i64 0, .int .i64 0, .int .i64 0], .struct [(0, 2), (1, 38), (2, 38), (3, 38), (4, 38)]⟩ (.node (.node .nil 112 ⟨1, 8, [.nilf], .other⟩ .nil) 113 ⟨7, 88, [.int .i64 0, .int .i64 0, .int .i64 0, .int .i64 0, .int .i64 0, .nils, .nils], .struct [(0, 2), (1, 2), (2, 38), (3, 54), (5, 43), (6, 42)]⟩ .nil)) 114 ⟨7, 88, [.int .i64 0, .int .i64 0, .int .i64 0, .int .i64 0, .int .i64 0, .nils, .nils], .struct [(0, 2), (1, 2), (2, 38), (3, 54), (5, 43), (6, 42)]⟩ (.node (.node (.node .nil 115 ⟨1, 8, [.nilf], .other⟩ .nil) 116 ⟨1, 8, [.nilp], .other⟩ .nil) 117 ⟨1, 8, [.nilf], .other⟩ (.node (.node .nil 118 ⟨1, 8, [.nilf], .other⟩ .nil) 119 ⟨1, 8, [.nilf], .other⟩ .nil)))))) 120 ⟨1, 8, [.nilf], .other⟩ (.node (.node (.node (.node (.node (.node (.node .nil 121 ⟨1, 8, [.nilf], .other⟩ .nil) 122 ⟨1, 8, [.nilf], .other⟩ (.node .nil 123 ⟨1, 8, [.nilf], .other⟩ .nil)) 124 ⟨1, 8, [.int .u64 0], .int .u64⟩ (.node (.node .nil 125 ⟨1, 8, [.nilf], .other⟩ .nil) 126 ⟨1, 8, [.nilf], .other⟩ .nil)) 127 ⟨13, 112, [.int .i64 0, .int .i64 0, .int .i64 0, .int .i64 0, .int .i64 0, .int .i64 0, .int .i64 0, .int .i64 0, .int .i64 0, .int .i64 0, .str [], .int .i64 0, .int .i64 0], .struct [(0, 3), (1, 3), (2, 3), (3, 2), (4, 2), (5, 2), (6, 2), (7, 38), (8, 40), (10, 9), (11, 54)]⟩ (.node (.node (.node .nil 128 ⟨13, 112, [.int .i64 0, .int .i64 0, .int .i64 0, .int .i64 0, .int .i64 0, .int .i64 0, .int .i64 0, .int .i64 0, .int .i64 0, .int .i64 0, .str [], .int .i64 0, .int .i64 0], .struct [(0, 3), (1, 3), (2, 3), (3, 2), (4, 2), (5, 2), (6, 2), (7, 38), (8, 40), (10, 9), (11, 54)]⟩ .nil) 129 ⟨1, 8, [.nilf], .other⟩ (.node .nil 130 ⟨1, 8, [.nilf], .other⟩ .nil)) 131 ⟨1, 8, [.nilf], .other⟩ (.node (.node .nil 132 ⟨1, 8, [.nilf], .other⟩ .nil) 134 ⟨1, 8, [.nilf], .other⟩ .nil))) 136 ⟨1, 8, [.nilf], .other⟩ (.node (.node (.node (.node .nil 137 ⟨1, 8, [.nilf], .other⟩ .nil) 138 ⟨1, 8, [.nilf], .other⟩ (.node .nil 140 ⟨1, 8, [.nilf], .other⟩ .nil)) 141 ⟨1, 8, [.nilf], .other⟩ (.node (.node .nil 142 ⟨1, 8, [.nilf], .other⟩ .nil) 143 ⟨1, 8, [.nilf], .other⟩ .nil)) 144 ⟨1, 8, [.nilf], .other⟩ (.node (.node (.node .nil 145 ⟨1, 8, [.nilp], .ptr⟩ .nil) 146 ⟨1, 24, [.nils], .struct [(0, 37)]⟩ .nil) 147 ⟨1, 24, [.nils], .struct [(0, 37)]⟩ (.node (.node .nil 148 ⟨1, 24, [.nils], .struct [(0, 147)]⟩ .nil) 149 ⟨1, 24, [.nils], .struct [(0, 147)]⟩ .nil)))) 150 ⟨1, 8, [.nilf], .other⟩ (.node (.node (.node (.node (.node .nil 153 ⟨1, 8, [.nilf], .other⟩ .nil) 154 ⟨1, 8, [.nilf], .other⟩ (.node .nil 155 ⟨1, 8, [.nilf], .other⟩ .nil)) 156 ⟨1, 8, [.nilf], .other⟩ (.node (.node .nil 157 ⟨1, 8, [.nilf], .other⟩ .nil) 158 ⟨1, 8, [.nilf], .other⟩ .nil)) 159 ⟨1, 8, [.nilf], .other⟩ (.node (.node (.node .nil 160 ⟨1, 8, [.nilf], .other⟩ .nil) 161 ⟨1, 8, [.nilf], .other⟩ .nil) 162 ⟨1, 24, [.nils], .slice 3⟩ (.node (.node .nil 163 ⟨1, 8, [.nilf], .other⟩ .nil) 164 ⟨1, 8, [.nilf], .other⟩ .nil))) 165 ⟨1, 8, [.nilf], .other⟩ (.node (.node (.node (.node .nil 166 ⟨1, 8, [.nilf], .other⟩ .nil) 167 ⟨1, 8, [.nilf], .other⟩ (.node .nil 168 ⟨1, 8, [.nilf], .other⟩ .nil)) 169 ⟨1, 8, [.nilf], .other⟩ (.node (.node .nil 170 ⟨1, 8, [.nilf], .other⟩ .nil) 171 ⟨1, 8, [.nilf], .other⟩ .nil)) 172 ⟨1, 8, [.nilf], .other⟩ (.node (.node (.node .nil 173 ⟨1, 8, [.nilf], .other⟩ .nil) 174 ⟨1, 8, [.nilf], .other⟩ .nil) 175 ⟨1, 8, [.nilf], .other⟩ (.node (.node .nil 176 ⟨1, 8, [.nilf], .other⟩ .nil) 177 ⟨1, 8, [.nilf], .other⟩ .nil))))) 178 ⟨1, 8, [.nilf], .other⟩ (.node (.node (.node (.node (.node (.node .nil 179 ⟨1, 8, [.nilf], .other⟩ .nil) 180 ⟨1, 8, [.nilf], .other⟩ (.node .nil 181 ⟨1, 8, [.nilf], .other⟩ .nil)) 183 ⟨1, 8, [.nilf], .other⟩ (.node (.node .nil 184 ⟨1, 8, [.nilf], .other⟩ .nil) 186 ⟨1, 8, [.nilf], .other⟩ .nil)) 187 ⟨1, 8, [.nilf], .other⟩ (.node (.node (.node .nil 188 ⟨1, 8, [.nilf], .other⟩ .nil) 189 ⟨1, 24, [.nils], .slice 2⟩ .nil) 190 ⟨1, 8, [.nilf], .other⟩ (.node (.node .nil 191 ⟨1, 8, [.nilf], .other⟩ .nil) 192 ⟨1, 8, [.nilf], .other⟩ .nil))) 193 ⟨1, 8, [.nilf], .other⟩ (.node (.node (.node (.node .nil 194 ⟨1, 8, [.int .i64 0], .struct [(0, 30)]⟩ .nil) 195 ⟨1, 8, [.int .i64 0], .struct [(0, 30)]⟩ (.node .nil 196 ⟨1, 8, [.nilp], .ptr⟩ .nil)) 197 ⟨1, 8, [.nilf], .other⟩ (.node (.node .nil 198 ⟨1, 8, [.nilf], .other⟩ .nil) 199 ⟨1, 8, [.nilf], .other⟩ .nil)) 201 ⟨1, 4, [.int .u32 0], .int .u32⟩ (.node (.node (.node .nil 203 ⟨1, 8, [.nilf], .other⟩ .nil) 204 ⟨1, 8, [.nilf], .other⟩ .nil) 205 ⟨1, 8, [.nilf], .other⟩ (.node (.node .nil 206 ⟨1, 8, [.nilf], .other⟩ .nil) 207 ⟨1, 8, [.nilf], .other⟩ .nil)))) 208 ⟨1, 8, [.nilf], .other⟩ (.node (.node (.node (.node (.node .nil 209 ⟨1, 8, [.nilf], .other⟩ .nil) 210 ⟨1, 8, [.nilf], .other⟩ (.node .nil 211 ⟨1, 8, [.nilf], .other⟩ .nil)) 212 ⟨1, 8, [.nilf], .other⟩ (.node (.node .nil 213 ⟨1, 8, [.nilf], .other⟩ .nil) 214 ⟨1, 8, [.nilp], .ptr⟩ .nil)) 215 ⟨1, 8, [.nilf], .other⟩ (.node (.node (.node .nil 216 ⟨1, 8, [.nilf], .other⟩ .nil) 217 ⟨1, 8, [.nilf], .other⟩ .nil) 218 ⟨1, 8, [.nilf], .other⟩ (.node (.node .nil 219 ⟨1, 8, [.nilf], .other⟩ .nil) 220 ⟨1, 24, [.nils], .slice 105⟩ .nil))) 221 ⟨1, 8, [.nilf], .other⟩ (.node (.node (.node (.node .nil 222 ⟨1, 24, [.nils], .slice 30⟩ .nil) 223 ⟨1, 8, [.nilf], .other⟩ (.node .nil 224 ⟨1, 8, [.nilf], .other⟩ .nil)) 225 ⟨1, 8, [.nilf], .other⟩ (.node (.node .nil 226 ⟨1, 8, [.nilf], .other⟩ .nil) 229 ⟨1, 8, [.nilf], .other⟩ .nil)) 235 ⟨1, 8, [.nilf], .other⟩ (.node (.node (.node .nil 236 ⟨1, 1, [.int .u8 0], .int .u8⟩ .nil) 237 ⟨1, 1, [.int .u8 0], .int .u8⟩ .nil) 238 ⟨1, 8, [.nilf], .other⟩ (.node (.node .nil 239 ⟨1, 4, [.int .i32 0], .int .i32⟩ .nil) 240 ⟨1, 4, [.int .i32 0], .int .i32⟩ .nil)))))))
def ttAll (p : Nat → TyI → Bool) : TT → Bool
  | .nil => true
  | .node l t i r => ttAll p l && (p t i && ttAll p r)
theorem look_all {p : Nat → TyI → Bool} : ∀ {tb : TT} {t : Nat} {i : TyI}, ttAll p tb = true → tb.look t = some i → p t i = true
  | .nil, _, _, _, h => by simp [TT.look] at h
  | .node l t' i' r, t, i, ha, h => by
    simp only [ttAll, Bool.and_eq_true] at ha
    simp only [TT.look] at h
    cases hb : Nat.beq t t' with
    | true =>
      rw [hb] at h
      injection h with h
      subst h
      cases Nat.eq_of_beq_eq_true hb
      exact ha.2.1
    | false =>
      rw [hb] at h
      cases hl : Nat.blt t t' with
      | true => rw [hl] at h; exact look_all ha.1 h
      | false => rw [hl] at h; exact look_all ha.2.2 h
def deq : D → D → Bool
  | .bool a, .bool b => a == b
  | .int k a, .int l b => k == l && a == b
  | .str [], .str [] => true
  | .nils, .nils => true
  | .nilp, .nilp => true
  | .nilf, .nilf => true
  | .nilm, .nilm => true
  | _, _ => false
theorem deq_ok {a b : D} (h : deq a b = true) : a = b := by
  unfold deq at h
  split at h <;> simp_all
def zeroB : List Value → List D → Bool
  | [], [] => true
  | v :: vs, d :: ds => (match zD v with | some e => deq e d | none => false) && zeroB vs ds
  | _, _ => false
theorem zeroB_ok : ∀ (vs : List Value) (ds : List D), zeroB vs ds = true → zeroOk vs ds
  | [], [], _ => trivial
  | v :: vs, d :: ds, h => by
    simp only [zeroB, Bool.and_eq_true] at h
    refine ⟨?_, zeroB_ok vs ds h.2⟩
    cases hz : zD v with
    | none => rw [hz] at h; cases h.1
    | some e => rw [hz] at h; rw [deq_ok h.1]
  | [], _ :: _, h => by simp [zeroB] at h
  | _ :: _, [], h => by simp [zeroB] at h
def tyB (P : Program) (t : Nat) (i : TyI) : Bool :=
  match P.info? t with
  | some inf => inf.size == i.size && inf.bytes == i.bytes && (kdOk P t i.kind && (!i.kind.isRow || eqOkB P t)) && (match inf.zero with
    | some z => zeroB z.cells.toList i.zero && z.cells.size == i.size && ((match z with | .agg _ => true | _ => false) == i.kind.isRow)
    | none => false)
  | none => false
theorem tyB_ok {P : Program} {t : Nat} {i : TyI} (h : tyB P t i = true) : i.ok P t := by
  unfold tyB at h
  split at h
  · rename_i inf hi
    simp only [Bool.and_eq_true, beq_iff_eq] at h
    obtain ⟨⟨⟨h1, h2⟩, h3, h5⟩, h4⟩ := h
    split at h4
    · rename_i z hz
      simp only [Bool.and_eq_true, beq_iff_eq] at h4
      obtain ⟨⟨k1, k2⟩, k3⟩ := h4
      refine ⟨⟨inf, z, hi, h1, h2, hz, zeroB_ok _ _ k1, k2, ?_⟩, h3, fun hr => by simpa [hr] using h5⟩
      rw [← k3]
      cases z <;> simp
    · cases h4
  · cases h
theorem tyTab_ok : tyTab.ok Tryz.prog := fun t i h => tyB_ok (look_all (p := tyB Tryz.prog) (by kernel_rfl) h)
end Go.Proofs.YtbbcepmhkocgbaaGreatDoor

/- Walks computed: the walk once more, by the recursors alone: so it unfolds in one way only, and two readings of a term meet at once. No program here. -/
namespace Go.Proofs.YtbbcepmhkocgbaaGreatDoor
open Go.RowKit
set_option linter.unusedVariables false

noncomputable def xR (E : En) (ops l : List Oper) : S → (S → T) → T :=
  List.rec (motive := fun _ => S → (S → T) → T) (fun s k => k s) (fun o _ ih s k => execG E ops o s (fun s' => ih s' k)) l
theorem xR_eq (E : En) (ops : List Oper) : ∀ (l : List Oper) (s : S) (k : S → T), xR E ops l s k = execR E ops l s k
  | [], s, k => rfl
  | o :: r, s, k => by
    show execG E ops o s (fun s' => xR E ops r s' k) = execG E ops o s (fun s' => execR E ops r s' k)
    rw [show (fun s' => xR E ops r s' k) = fun s' => execR E ops r s' k from funext fun s' => xR_eq E ops r s' k]
/-- a region that draws -/
noncomputable def xA (E : En) (ops : List Oper) (hr : List AO) (md : List Nat) (pl : PT) : Bool → S → (S → T) → T :=
  PT.rec (motive := fun _ => Bool → S → (S → T) → T) (fun _ s k => k s) (fun i al _ ih gr s k => runA E ops hr md i al gr (fun g s' => ih g s' k) s)
    (fun i _ _ iha ihr gr s k => .both (runA E ops hr md i true gr (fun g s' => iha g s' k) s) (ihr gr s k)) pl
theorem xA_eq (E : En) (ops : List Oper) (hr : List AO) (md : List Nat) (pl : PT) : ∀ (gr : Bool) (s : S) (k : S → T), xA E ops hr md pl gr s k = execA E ops hr md pl gr s k := by
  induction pl with
  | done => exact fun _ _ _ => rfl
  | one i al r ih =>
    intro gr s k
    show runA E ops hr md i al gr (fun g s' => xA E ops hr md r g s' k) s = runA E ops hr md i al gr (fun g s' => execA E ops hr md r g s' k) s
    rw [show (fun g s' => xA E ops hr md r g s' k) = fun g s' => execA E ops hr md r g s' k from funext fun g => funext fun s' => ih g s' k]
  | alt i a r iha ihr =>
    intro gr s k
    show T.both (runA E ops hr md i true gr (fun g s' => xA E ops hr md a g s' k) s) (xA E ops hr md r gr s k) = T.both (runA E ops hr md i true gr (fun g s' => execA E ops hr md a g s' k) s) (execA E ops hr md r gr s k)
    rw [show (fun g s' => xA E ops hr md a g s' k) = fun g s' => execA E ops hr md a g s' k from funext fun g => funext fun s' => iha g s' k, ihr]
noncomputable def xC (E : En) (m : Nat) (PL : List (Nat × PlanT)) (c : Code) : S → (Exit → S → T) → T :=
  Code.rec (motive := fun _ => S → (Exit → S → T) → T)
    (fun s K => K .normal s)
    (fun id ops dr s K => match dr with
      | false => xR E ops.toList ops.toList s (K .normal)
      | true => .ask ((planOk ops (planOf PL id ops.toList s).t (Array.replicate ops.size false) false && (Region.noSelect ops && Nat.ble (planOf PL id ops.toList s).t.depth ops.size)) = true)
        (xA E ops.toList s.h (planOf PL id ops.toList s).md (planOf PL id ops.toList s).t false s (K .normal)))
    (fun _ _ a b s K => a s fun e s' => match e with
      | .normal => b s' K
      | e => K e s')
    (fun c _ _ a b s K => match ev s c with
      | .bool v => .br v (a s K) (b s K)
      | _ => .fail 70)
    (fun id _ c s K => c s fun e s' => match e with
      | .exit id' => bif Nat.beq id' id then K .normal s' else K (.exit id') s'
      | e => K e s')
    (fun _ c s K => .loop m s (fun s' => c s' .leaf) K)
    (fun _ _ _ _ _ _ _ _ => .fail 71)
    (fun id s K => K (.exit id) s)
    (fun _ _ _ _ => .fail 71)
    (fun _ _ _ => .fail 71)
    (fun _ _ _ => .fail 71)
    (fun s K => K .ret s)
    (fun _ _ _ => .fail 71) c
theorem xC_eq [Wd] (E : En) (m : Nat) (PL : List (Nat × PlanT)) : ∀ (c : Code) (s : S) (K : Exit → S → T), xC E m PL c s K = execC E m PL c s K
  | .skip, s, K => rfl
  | .region id ops false, s, K => xR_eq E ops.toList ops.toList s (K .normal)
  | .region id ops true, s, K => by
    show T.ask _ (xA E ops.toList s.h (planOf PL id ops.toList s).md (planOf PL id ops.toList s).t false s (K .normal)) = _
    rw [xA_eq]
    rfl
  | .seq a b, s, K => by
    show xC E m PL a s (fun e s' => match e with
      | .normal => xC E m PL b s' K
      | e => K e s') = _
    rw [xC_eq E m PL a]
    show _ = execC E m PL a s (fun e s' => match e with
      | .normal => execC E m PL b s' K
      | e => K e s')
    congr 1
    funext e s'
    cases e <;> first | exact xC_eq E m PL b s' K | rfl
  | .cond c a b, s, K => by
    show (match ev s c with
      | .bool v => .br v (xC E m PL a s K) (xC E m PL b s K)
      | _ => .fail 70 : T) = _
    rw [xC_eq E m PL a, xC_eq E m PL b]
    rfl
  | .block id c, s, K => xC_eq E m PL c s _
  | .loop c, s, K => by
    show T.loop m s (fun s' => xC E m PL c s' .leaf) K = _
    rw [show (fun s' => xC E m PL c s' .leaf) = fun s' => execC E m PL c s' .leaf from funext fun s' => xC_eq E m PL c s' .leaf]
    rfl
  | .exit id, s, K => rfl
  | .ret, s, K => rfl
  | .rangeFunc _ _ _ _, s, K => rfl
  | .scope _, s, K => rfl
  | .label _, s, K => rfl
  | .goto _, s, K => rfl
  | .refuse _, s, K => rfl
end Go.Proofs.YtbbcepmhkocgbaaGreatDoor

/- The rule for this program's functions; elder contracts as data. -/
namespace Go.Proofs.YtbbcepmhkocgbaaGreatDoor
open Go.RowKit
set_option linter.unusedVariables false

theorem mkT' [Wd] (dt : Bool) {f : FuncId} {fn : Func} {c : Code} {ar : List D} {h : List AO} {Post : D → List AO → Prop} (n : Nat) (PL : List (Nat × PlanT)) (hf : Tryz.prog.funcs[f]? = some fn) (hb : fn.body = some c) (hn : (Nat.beq fn.ntmps n && (Nat.ble ar.length n && calleeOk Tryz.prog f)) = true)
    (hx : (xC ⟨tyTab, n, dt⟩ h.length PL c ⟨argT 0 ar, h⟩ .leaf).ok Tryz.prog (Lf tyTab fn.results.toList h Post)) : FnS Tryz.prog f ar h Post := by
  simp only [Bool.and_eq_true] at hn
  rw [xC_eq] at hx
  exact FnS.of_exec (E := ⟨tyTab, n, dt⟩) hf hb (Nat.eq_of_beq_eq_true hn.1) tyTab_ok (by kernel_rfl) hn.2.2 rfl (Nat.le_of_ble_eq_true hn.2.1) hx
/-- by plans with orders beside one another -/
theorem mkT [Wd] {f : FuncId} {fn : Func} {c : Code} {ar : List D} {h : List AO} {Post : D → List AO → Prop} (n : Nat) (PL : List (Nat × PlanT)) (hf : Tryz.prog.funcs[f]? = some fn) (hb : fn.body = some c) (hn : (Nat.beq fn.ntmps n && (Nat.ble ar.length n && calleeOk Tryz.prog f)) = true)
    (hx : (xC ⟨tyTab, n, true⟩ h.length PL c ⟨argT 0 ar, h⟩ .leaf).ok Tryz.prog (Lf tyTab fn.results.toList h Post)) : FnS Tryz.prog f ar h Post := mkT' true n PL hf hb hn hx
def plans : List (Nat × Plan) → List (Nat × PlanT)
  | [] => []
  | (i, p) :: r => (i, p.t) :: plans r
theorem mkS' [Wd] (dt : Bool) {f : FuncId} {fn : Func} {c : Code} {ar : List D} {h : List AO} {Post : D → List AO → Prop} (n : Nat) (PL : List (Nat × Plan)) (hf : Tryz.prog.funcs[f]? = some fn) (hb : fn.body = some c) (hn : (Nat.beq fn.ntmps n && (Nat.ble ar.length n && calleeOk Tryz.prog f)) = true)
    (hx : (xC ⟨tyTab, n, dt⟩ h.length (plans PL) c ⟨argT 0 ar, h⟩ .leaf).ok Tryz.prog (Lf tyTab fn.results.toList h Post)) : FnS Tryz.prog f ar h Post := mkT' dt n (plans PL) hf hb hn hx
theorem mkS [Wd] {f : FuncId} {fn : Func} {c : Code} {ar : List D} {h : List AO} {Post : D → List AO → Prop} (n : Nat) (PL : List (Nat × Plan)) (hf : Tryz.prog.funcs[f]? = some fn) (hb : fn.body = some c) (hn : (Nat.beq fn.ntmps n && (Nat.ble ar.length n && calleeOk Tryz.prog f)) = true)
    (hx : (xC ⟨tyTab, n, true⟩ h.length (plans PL) c ⟨argT 0 ar, h⟩ .leaf).ok Tryz.prog (Lf tyTab fn.results.toList h Post)) : FnS Tryz.prog f ar h Post := mkT' true n (plans PL) hf hb hn hx
/-- of the world nothing is asked -/
instance wd0 : Wd := ⟨fun _ _ => True, fun _ _ _ => trivial⟩
theorem FnS.old [Wd] {P : Program} {f : FuncId} {ar : List D} {r : D} {v : Value} (hv : ∀ I w, Dr I w v r) (hcal : calleeOk P f = true) (h : ∀ w I vs, Drs I w vs ar → Calls P f vs.toArray w fun e w' => e = .returned v ∧ B w w') (hp : pureD.pl ar = true) : FnS P f ar [] (fun r' h' => r' = r ∧ h' = []) := by
  refine ⟨hcal, fun w I g vs _ hd ha => (h w I vs (pureL_ok ha hp)).mono ?_⟩
  rintro e w' ⟨rfl, hb⟩
  have hg : g = [] := List.eq_nil_of_length_eq_zero hd.len
  subst hg
  exact ⟨v, I, [], r, [], rfl, ⟨rfl, rfl⟩, hd.later hb, .rd (hv I w'), Ext.of_B hb, fun _ h => h, fun _ h => .inl h, fun b h => .inl h, fun o p t cs _ h => by simp at h⟩
end Go.Proofs.YtbbcepmhkocgbaaGreatDoor

/- From contracts over data back to contracts over readings; what yields new bytes. -/
namespace Go.Proofs.YtbbcepmhkocgbaaGreatDoor
open Go.RowKit
set_option linter.unusedVariables false

/-- data lie in blocks that are -/
theorem Dr.lt {I : Nat → Prop} {w : World} {v : Value} {d : D} (h : Dr I w v d) : Dr (fun b => I b ∧ b < w.heap.size) w v d := by
  induction h with
  | bool b => exact .bool b
  | int k n => exact .int k n
  | str s => exact .str s
  | nils => exact .nils
  | nilp => exact .nilp
  | nilf => exact .nilf
  | nilm => exact .nilm
  | list A cap n l xs U hl0 hl hm hnone hlen hA h1 hU ih =>
    exact .list A cap n l xs U hl0 hl hm hnone hlen (fun h0 => by
      obtain ⟨b, off, e, k1, k2, k3⟩ := hA h0
      exact ⟨b, off, e, k1, ⟨k2, k1⟩, k3⟩) h1 ih
  | ref b off cs U hI hb hc h1 hU ih => exact .ref b off cs U ⟨hI, hb⟩ hb hc h1 ih
  | agg vs ds hl h1 h ih => exact .agg vs ds hl h1 ih
  | tup vs ds hl h ih => exact .tup vs ds hl ih
  | fn f vs ds hl h ih => exact .fn f vs ds hl ih
theorem Drs.lt {I : Nat → Prop} {w : World} {vs : List Value} {ds : List D} (h : Drs I w vs ds) : Drs (fun b => I b ∧ b < w.heap.size) w vs ds :=
  ⟨h.1, fun i v d h1 h2 => (h.2 i v d h1 h2).lt⟩
/-- what a function that only computes answers, over data -/
theorem FnP.calls [Wd] {P : Program} {f : FuncId} {ar : List D} {r : D} (hF : FnP P f ar r) {I : Nat → Prop} {w : World} {vs : List Value} (hd : Drs I w vs ar) (hW : Wd.W (fun b => I b ∧ b < w.heap.size) w) :
    Calls P f vs.toArray w fun e w' => ∃ v I', e = .returned v ∧ B w w' ∧ Vr I' [] w' v r ∧ (∀ b, I' b → (I b ∧ b < w.heap.size) ∨ w.heap.size ≤ b) ∧ ∀ b, I' b → b < w'.heap.size := by
  have hd' := hd.lt
  have hD : Den (fun b => I b ∧ b < w.heap.size) [] w [] := ⟨rfl, fun b h => h.2, fun o ao p h => by simp at h, fun o ao p b h => by simp at h, fun o o' ao ao' p p' b h => by simp at h⟩
  have hn : ∀ b, ¬ Owned [] [] b := fun b ⟨o, ao, p, h, _⟩ => by simp at h
  refine (hF.2 w _ [] vs hW hD ⟨hd'.1, fun i v d h1 h2 => .rd (hd'.2 i v d h1 h2)⟩).mono ?_
  rintro e w' ⟨v, I', g', r', h', rfl, ⟨rfl, rfl⟩, hD', hv, hx, i1, i2, ow, gk⟩
  have hg : g' = [] := List.eq_nil_of_length_eq_zero hD'.len
  subst hg
  refine ⟨v, I', rfl, hx.to_B (fun b _ ho => hn b ho), hv, fun b hb => ?_, hD'.inn⟩
  rcases i2 b hb with k | k | k
  · exact .inl k
  · exact absurd k (hn b)
  · exact .inr k
theorem FnP.callsBool [Wd] {P : Program} {f : FuncId} {ar : List D} {n : Bool} (hF : FnP P f ar (.bool n)) {I : Nat → Prop} {w : World} {vs : List Value} (hd : Drs I w vs ar) (hW : Wd.W (fun b => I b ∧ b < w.heap.size) w) :
    Calls P f vs.toArray w fun e w' => e = .returned (.bool n) ∧ B w w' :=
  (hF.calls hd hW).mono (by
    rintro e w' ⟨v, I', rfl, hb, hv, _⟩
    exact ⟨by rw [hv.bool_inv], hb⟩)
/-- a struct of readings as an argument -/
theorem Lk.arg {α : Type} {T : Ty α} {A : Dt α} (L : Lk T A) {inn : Nat → Prop} {w : World} {cs : List Value} {a : α} (h : T.rd inn w cs a) : Drs inn w [.agg cs.toArray] [.agg (A.c a)] := by
  obtain ⟨h1, _, h3⟩ := L.to h
  exact .one (.agg cs _ h1.1 h3 h1.2)
end Go.Proofs.YtbbcepmhkocgbaaGreatDoor

/- The form of a number, as a list of bytes. Plain; and codec.form. -/
namespace Go.Proofs.YtbbcepmhkocgbaaGreatDoor
open Go.RowKit
set_option linter.unusedVariables false

/-- seven bits a byte, the least first -/
def enc (n : Nat) : List UInt8 := if h : n < 128 then [UInt8.ofNat n] else UInt8.ofNat (n % 128 + 128) :: enc (n / 128)
  termination_by n
  decreasing_by omega
theorem enc_lt {n : Nat} (h : n < 128) : enc n = [UInt8.ofNat n] := by rw [enc, dif_pos h]
theorem enc_ge {n : Nat} (h : ¬ n < 128) : enc n = UInt8.ofNat (n % 128 + 128) :: enc (n / 128) := by rw [enc, dif_neg h]
theorem enc_pos (n : Nat) : 0 < (enc n).length := by
  by_cases h : n < 128
  · rw [enc_lt h]; simp
  · rw [enc_ge h]; simp
theorem enc_le (k : Nat) : ∀ n, n < 128 ^ (k + 1) → (enc n).length ≤ k + 1 := by
  induction k with
  | zero => intro n h; rw [enc_lt (by simpa using h)]; simp
  | succ k ih =>
    intro n h
    by_cases hn : n < 128
    · rw [enc_lt hn]; simp
    · rw [enc_ge hn]
      have := ih (n / 128) (by rw [Nat.div_lt_iff_lt_mul (by omega)]; rw [Nat.pow_succ] at h; exact h)
      simp; omega
theorem enc_10 {n : Nat} (h : n < 18446744073709551616) : (enc n).length ≤ 10 := enc_le 9 n (Nat.lt_of_lt_of_le h (by decide))
theorem orB (m : Nat) : bits BinOp.or IntKind.u8 ((m : Int) % 256) 128 = ((m % 128 + 128 : Nat) : Int) := by
  have h : ∀ k : Fin 256, bits BinOp.or IntKind.u8 ((k.val : Int)) 128 = ((k.val % 128 + 128 : Nat) : Int) := by decide +kernel
  have := h ⟨m % 256, Nat.mod_lt _ (by omega)⟩
  simp only at this
  rw [show ((m : Int) % 256) = ((m % 256 : Nat) : Int) by omega, this]
  congr 1; omega
/-- the cells of an array of ten that begins with bytes -/
def ten (p : List UInt8) : Array Value := (cellsB p ++ List.replicate (10 - p.length) (Value.int IntKind.u8 0)).toArray
theorem ten_size {p : List UInt8} (h : p.length ≤ 10) : (ten p).size = 10 := by simp [ten, cellsB_len]; omega
theorem ten_set {p : List UInt8} (h : p.length < 10) (k : Nat) (hk : k < 256) : (ten p).setIfInBounds p.length (.int .u8 (k : Int)) = ten (p ++ [UInt8.ofNat k]) := by
  apply Array.ext'
  simp only [ten, Array.toList_setIfInBounds, List.length_append, List.length_singleton]
  rw [List.set_append_right _ _ (by rw [cellsB_len]; omega), cellsB_len, Nat.sub_self]
  obtain ⟨j, hj⟩ : ∃ j, 10 - p.length = j + 1 := ⟨10 - p.length - 1, by omega⟩
  rw [hj, show 10 - (p.length + 1) = j by omega, List.replicate_succ, List.set_cons_zero, cellsB_app]
  simp only [List.append_assoc]
  congr 1
  simp [cellsB]
  omega
theorem ten_lit {p : List UInt8} (h : p.length ≤ 10) : ∃ x0 x1 x2 x3 x4 x5 x6 x7 x8 x9 : Int, ten p = #[.int .u8 x0, .int .u8 x1, .int .u8 x2, .int .u8 x3, .int .u8 x4, .int .u8 x5, .int .u8 x6, .int .u8 x7, .int .u8 x8, .int .u8 x9] := by
  have hs := ten_size h
  have hall : ∀ v ∈ (ten p).toList, ∃ x : Int, v = .int .u8 x := by
    intro v hv
    simp only [ten, List.mem_append, cellsB, List.mem_map, List.mem_replicate] at hv
    rcases hv with ⟨b, _, rfl⟩ | ⟨_, rfl⟩
    · exact ⟨_, rfl⟩
    · exact ⟨_, rfl⟩
  obtain ⟨l, hl⟩ : ∃ l, (ten p).toList = l := ⟨_, rfl⟩
  have e : ten p = l.toArray := by rw [← hl]
  rw [hl] at hall
  have hl10 : l.length = 10 := by rw [← hl]; simpa using hs
  match l, hl10 with
  | [a0, a1, a2, a3, a4, a5, a6, a7, a8, a9], _ =>
    obtain ⟨x0, rfl⟩ := hall a0 (by simp)
    obtain ⟨x1, rfl⟩ := hall a1 (by simp)
    obtain ⟨x2, rfl⟩ := hall a2 (by simp)
    obtain ⟨x3, rfl⟩ := hall a3 (by simp)
    obtain ⟨x4, rfl⟩ := hall a4 (by simp)
    obtain ⟨x5, rfl⟩ := hall a5 (by simp)
    obtain ⟨x6, rfl⟩ := hall a6 (by simp)
    obtain ⟨x7, rfl⟩ := hall a7 (by simp)
    obtain ⟨x8, rfl⟩ := hall a8 (by simp)
    obtain ⟨x9, rfl⟩ := hall a9 (by simp)
    exact ⟨x0, x1, x2, x3, x4, x5, x6, x7, x8, x9, e⟩

theorem form_le {n m : Nat} {p : List UInt8} (hp : m * 128 ^ p.length ≤ n) : m ≤ n :=
  Nat.le_trans (Nat.le_mul_of_pos_right m (Nat.one_le_pow _ _ (by omega))) hp
theorem form_more {n m : Nat} {p : List UInt8} (h : n < 18446744073709551616) (hp : m * 128 ^ p.length ≤ n) (hm : 127 < m) : p.length < 9 := by
  rcases Nat.lt_or_ge p.length 9 with h | h
  · exact h
  · have h1 := Nat.pow_le_pow_right (show 0 < 128 by omega) h
    have h2 : 128 * 128 ^ p.length ≤ m * 128 ^ p.length := Nat.mul_le_mul_right _ (by omega)
    have e10 : (128 : Nat) ^ 9 = 9223372036854775808 := by decide
    omega
set_option maxRecDepth 20000 in
set_option maxHeartbeats 1000000 in
theorem form115 (w : World) (n : Nat) (hn : n < 18446744073709551616) : Calls Tryz.prog 89 #[.int .u64 (n : Int)] w fun e w' => e = .returned (.tuple #[.agg (ten (enc n)), .int .i64 ((enc n).length : Int)]) ∧ B w w' := by
  have HN := Lib.hid hn
  have hz : ten [] = #[.int .u8 0, .int .u8 0, .int .u8 0, .int .u8 0, .int .u8 0, .int .u8 0, .int .u8 0, .int .u8 0, .int .u8 0, .int .u8 0] := rfl
  have k1 : Blk ((w.alloc (.cells (ten []) 151)).alloc (.cells (ten []) 151)) w.heap.size 151 (ten []) := (Blk.new w _ _).alloc _
  have k2 : Blk ((w.alloc (.cells (ten []) 151)).alloc (.cells (ten []) 151)) (w.heap.size + 1) 151 (ten []) := by simpa using Blk.new (w.alloc (.cells (ten []) 151)) 151 (ten [])
  have k3 : B w ((w.alloc (.cells (ten []) 151)).alloc (.cells (ten []) 151)) := (B.alloc' _ _).trans (B.alloc' _ _)
  rw [hz] at k1 k2 k3
  clear hz hn
  go_enter Tryz.func89, Tryz.ntmps89
  go_wp2_with fail
  rw [← show ten [] = #[Value.int IntKind.u8 0, .int .u8 0, .int .u8 0, .int .u8 0, .int .u8 0, .int .u8 0, .int .u8 0, .int .u8 0, .int .u8 0, .int .u8 0] from rfl] at k1 k2 k3
  go_loopw [0, 5] (fun x k wr => ∃ (m q : Nat) (p : List UInt8), x = .int .u64 (m : Int) ∧ k = .int .i64 (q : Int) ∧ Hid (p.length = q) ∧ Hid (enc n = p ++ enc m) ∧ q < 10 ∧ Hid (m * 128 ^ q ≤ n) ∧ Hid (Blk wr w.heap.size 151 (ten [])) ∧ Hid (Blk wr (w.heap.size + 1) 151 (ten p)) ∧ Hid (B w wr)) (fun x _ _ => (intOf x).toNat)
  case atStart => exact ⟨n, 0, [], rfl, rfl, rfl, rfl, by omega, by show n * 128 ^ 0 ≤ n; omega, k1, k2, k3⟩
  case round =>
    obtain ⟨m, q, p, rfl, rfl, HL, HE, hq, HP, H1, H2, H3⟩ := hrel
    clear k1 k2 k3
    have hmn := Lib.hid (form_le (p := p) (by rw [HL.out]; exact HP.out))
    have hsz := Lib.hid (ten_size (p := p) (by rw [HL.out]; omega))
    have c3 := H2.out.frozen q
    obtain ⟨cv, c2⟩ : ∃ cv, wr.cell? ⟨w.heap.size + 1, q, none⟩ = some cv := by
      rw [H2.out.cell]
      exact ⟨(ten p)[q]'(by rw [hsz.out]; omega), Array.getElem?_eq_getElem _⟩
    have hqi : (q : Int) < 10 := by omega
    by_cases hm : 127 < m
    · have hpl := Lib.hid (form_more (p := p) HN.out (by rw [HL.out]; exact HP.out) hm)
      go_wp2_with fail
      go_roundw
      case rel =>
        have hq9 : q < 9 := by have := hpl.out; have := HL.out; omega
        refine ⟨m / 128, q + 1, p ++ [UInt8.ofNat (m % 128 + 128)], by go_num, by go_num, ?_, ?_, by omega, ?_, H1.out.far (by simp) _, ?_, H3.out.setCell (by simp) _⟩
        · show (p ++ [_]).length = q + 1
          rw [List.length_append, HL.out]; rfl
        · show enc n = _
          rw [HE.out, enc_ge (by omega), List.append_assoc]; rfl
        · show m / 128 * 128 ^ (q + 1) ≤ n
          rw [Nat.pow_succ, Nat.mul_comm (128 ^ q) 128, ← Nat.mul_assoc]
          exact Nat.le_trans (Nat.mul_le_mul_right _ (Nat.div_mul_le_self m 128)) HP.out
        · show Blk _ _ _ _
          rw [orB]
          have := H2.out.set_ q (.int .u8 ((m % 128 + 128 : Nat) : Int))
          have e := ten_set (p := p) (by rw [HL.out]; omega) (m % 128 + 128) (by omega)
          rw [HL.out] at e
          rwa [e] at this
      case measure => simp [intOf]; omega
    · have hpt := ten_set (p := p) (by rw [HL.out]; omega) m (by omega)
      rw [HL.out] at hpt
      obtain ⟨x0, x1, x2, x3, x4, x5, x6, x7, x8, x9, hx⟩ := ten_lit (p := p ++ [UInt8.ofNat m]) (by simp; rw [HL.out]; omega)
      have HX := Lib.hid hx
      have HEN := Lib.hid (show enc n = p ++ [UInt8.ofNat m] by rw [HE.out, enc_lt (by omega)])
      have HT := Lib.hid (show Blk (wr.setCell ⟨w.heap.size + 1, q, none⟩ (.int .u8 (m : Int))) (w.heap.size + 1) 151 #[.int .u8 x0, .int .u8 x1, .int .u8 x2, .int .u8 x3, .int .u8 x4, .int .u8 x5, .int .u8 x6, .int .u8 x7, .int .u8 x8, .int .u8 x9] from by
        have := H2.out.set_ q (.int .u8 (m : Int)); rwa [hpt, hx] at this)
      have HZ := Lib.hid (show Blk (wr.setCell ⟨w.heap.size + 1, q, none⟩ (.int .u8 (m : Int))) w.heap.size 151 #[.int .u8 0, .int .u8 0, .int .u8 0, .int .u8 0, .int .u8 0, .int .u8 0, .int .u8 0, .int .u8 0, .int .u8 0, .int .u8 0] from H1.out.far (by simp) _)
      have HB := Lib.hid (show B w (wr.setCell ⟨w.heap.size + 1, q, none⟩ (.int .u8 (m : Int))) from H3.out.setCell (by simp) _)
      have hm256 : (m : Int) % 256 = m := by omega
      clear hpt hx
      go_wp2_with (refine wpList_load_row rfl 151 (.tmp 4) rfl (w.heap.size + 1) rfl 151 #[.int .u8 x0, .int .u8 x1, .int .u8 x2, .int .u8 x3, .int .u8 x4, .int .u8 x5, .int .u8 x6, .int .u8 x7, .int .u8 x8, .int .u8 x9] (0, 0) _ HT.out Tryz.underlying151 rfl (by kernel_rfl) ?_; have cz := fun i => HZ.out.cell i; have fz := fun i => HZ.out.frozen i; have HS := Lib.hid HB.out; generalize wr.setCell ⟨w.heap.size + 1, q, none⟩ (.int .u8 (m : Int)) = wz at *)
      refine bodyPost_ret (v := .tuple #[.agg #[.int .u8 x0, .int .u8 x1, .int .u8 x2, .int .u8 x3, .int .u8 x4, .int .u8 x5, .int .u8 x6, .int .u8 x7, .int .u8 x8, .int .u8 x9], .int .i64 ((q : Int) + 1)]) (by simp [results, Tryz.results89, go_sem, cz]) rfl ⟨?_, ?_⟩
      · rw [← HX.out, ← HEN.out]
        have e : ((q : Int) + 1) = ((enc n).length : Int) := by rw [HEN.out, List.length_append, HL.out]; simp
        rw [e]
      · repeat (refine Below.setCell ?_ (by simp) _)
        exact HB.out
end Go.Proofs.YtbbcepmhkocgbaaGreatDoor

/- What codec and its reference put: numbers, byte strings, lists. -/
namespace Go.Proofs.YtbbcepmhkocgbaaGreatDoor
open Go.RowKit
set_option linter.unusedVariables false

/-- a slice with no room behind it -/
def clipV : Value → Value | .slice A n _ => .slice A n n | v => v
set_option maxHeartbeats 400000 in
theorem clip116 {w : World} {v : Value} {bs : List UInt8} (h : Bs w v bs) : Calls Tryz.prog 90 #[v] w fun e w' => e = .returned (clipV v) ∧ w = w' := by
  obtain ⟨⟨A, cap, rfl, hn, hc, hm, hr⟩, hl⟩ := h
  have hm' : bs.length ≤ 9223372036854775807 := by unfold maxLen at hm; omega
  have hci : (bs.length : Int) ≤ (cap : Int) := by omega
  cases A with
  | none =>
    obtain ⟨rfl, rfl⟩ := hn rfl
    clear hr hn hc hm hl
    go_enter Tryz.func90, Tryz.ntmps90
    go_wp2
    go_ret
    exact ⟨rfl, rfl⟩
  | some ad =>
    clear hr hn hm hl
    go_enter Tryz.func90, Tryz.ntmps90
    go_wp2
    go_ret
    exact ⟨rfl, rfl⟩
/-- append where there is no room: a new row -/
theorem append_clip {P : Program} {t ty : TypeId} {w : World} {v u : Value} {bs news : List UInt8} (ht : P.underlying t = some (.slice 5)) (hi5 : (P.info? 5).map (fun i => (i.zero, i.size, i.bytes)) = some (some (.int .u8 0), 1, 1))
    (hv : Bs w v bs) (hu : Rd w u news.length 1 (cellsB news)) (hm : 0 < news.length) (hroom : bs.length + news.length ≤ big) :
    ∃ v' w', (Builtin.append_ #[t, t] ty #[clipV v, u]).run P w = .ok v' w' ∧ w'.ownsRow w.heap.size 5 1 v' (bs ++ news).length (cellsB (bs ++ news)) ∧ B w w' := by
  obtain ⟨⟨A, cap, rfl, hn, hc, hmx, hr⟩, hl⟩ := hv
  have hb1 : bs.length + news.length ≤ maxLen := by unfold big at hroom; unfold maxLen; omega
  have hb2 : (bs.length + news.length) * 1 ≤ 140737488355328 := by unfold big at hroom; omega
  cases A with
  | none =>
    obtain ⟨rfl, rfl⟩ := hn rfl
    obtain ⟨v', w', h1, h2, h3, h4⟩ := append_Rd (P := P) (t := t) (ty := ty) ht hi5 rfl Nat.zero_lt_one (ownNil w w.heap.size 5 1) hu (cellsB_one _) (by simpa using hb1) (by simpa using hb2) (Nat.le_refl _)
    exact ⟨v', w', h1, by simpa using h2, B.grown (Below.refl _ _) h3 (fun k hk => by simp [Value.ownBlock] at hk)⟩
  | some ad =>
    obtain ⟨i, hi, hz0, hs, hby⟩ := info_parts hi5
    obtain ⟨hul, A', c', rfl, hn', hc', hr'⟩ := hu
    cases A' with
    | none => have := (hn' rfl).1; omega
    | some ad' =>
      obtain ⟨v', w', h1, h2, h3⟩ := run_append_arg_grows (P := P) w t ty 5 i (.int .u8 0) 1 1 ht hi hz0 hs hby rfl Nat.zero_lt_one ad bs.length bs.length (cellsB bs) (by rw [cellsB_len]; omega) (hr ad rfl).2 ad' news.length c' (cellsB news) (by rw [cellsB_len]; omega) (hr' ad' rfl).2 (by omega) hb1 hb2
      exact ⟨v', w', h1, by rw [List.length_append, cellsB_app]; exact h2, B.grown (Below.refl _ _) h3 (fun k hk => by cases hk)⟩
theorem ten_rd {w : World} {g : Nat} {p : List UInt8} (hp : p.length ≤ 10) (h : Blk w g 151 (ten p)) : Rd w (.slice (some ⟨g, 0, none⟩) p.length 10) p.length 1 (cellsB p) := by
  refine ⟨by rw [cellsB_len]; omega, _, 10, rfl, fun e => (by cases e), hp, fun ad had => ?_⟩
  cases had
  refine ⟨fun _ => h.lt, fun j x hx => ?_⟩
  have ea : (⟨g, 0, none⟩ : Addr).add j = ⟨g, j, none⟩ := by unfold Addr.add; split <;> simp_all
  rw [ea, h.cell, ← hx]
  have hj : j < (cellsB p).length := by
    rcases Nat.lt_or_ge j (cellsB p).length with h | h
    · exact h
    · rw [List.getElem?_eq_none h] at hx; cases hx
  simp only [ten, List.getElem?_toArray]
  rw [List.getElem?_append_left hj]

set_option maxRecDepth 20000 in
set_option maxHeartbeats 1000000 in
theorem putNum70 {w : World} {v : Value} {bs : List UInt8} (h : Bs w v bs) (n : Nat) (hn : n < 18446744073709551616) (hl : bs.length + 10 ≤ big) : Calls Tryz.prog 61 #[v, .int .u64 (n : Int)] w (Fresh w (bs ++ enc n)) := by
  have H := Lib.hid h
  have HF := Lib.hid (form115 w n hn)
  have HE := Lib.hid (enc_10 hn)
  have HL := Lib.hid hl
  obtain ⟨x0, x1, x2, x3, x4, x5, x6, x7, x8, x9, hx⟩ := ten_lit (p := enc n) (enc_10 hn)
  have HX := Lib.hid hx
  have hq : (enc n).length ≤ 10 := enc_10 hn
  have hqi : ((enc n).length : Int) ≤ 10 := by omega
  clear h hn hl hx
  go_enter Tryz.func61, Tryz.ntmps61
  go_wp2_with (go_at_call 89; refine HF.out.mono ?_; rintro e w1 ⟨rfl, hb1⟩; rw [HX.out])
  have hb2 := hb1.trans (B.alloc' w1 (.cells #[.int .u8 x0, .int .u8 x1, .int .u8 x2, .int .u8 x3, .int .u8 x4, .int .u8 x5, .int .u8 x6, .int .u8 x7, .int .u8 x8, .int .u8 x9] 151))
  have hk : Blk (w1.alloc (.cells #[.int .u8 x0, .int .u8 x1, .int .u8 x2, .int .u8 x3, .int .u8 x4, .int .u8 x5, .int .u8 x6, .int .u8 x7, .int .u8 x8, .int .u8 x9] 151)) w1.heap.size 151 #[.int .u8 x0, .int .u8 x1, .int .u8 x2, .int .u8 x3, .int .u8 x4, .int .u8 x5, .int .u8 x6, .int .u8 x7, .int .u8 x8, .int .u8 x9] := Blk.new w1 _ _
  generalize w1.alloc (.cells #[.int .u8 x0, .int .u8 x1, .int .u8 x2, .int .u8 x3, .int .u8 x4, .int .u8 x5, .int .u8 x6, .int .u8 x7, .int .u8 x8, .int .u8 x9] 151) = w2 at *
  have hk' : Blk w2.drew w1.heap.size 151 (ten (enc n)) := by rw [HX.out]; exact hk
  obtain ⟨v', w3, hrun, h2, h3⟩ := append_clip (P := Tryz.prog) (t := 37) (ty := 37) Tryz.underlying37 info5 (H.out.later (hb2.trans (Below.refl _ _).drew)) (ten_rd HE.out hk') (enc_pos n) (by have := HE.out; have := HL.out; omega)
  have HC := Lib.hid (clip116 (H.out.later (hb2.trans (Below.refl _ _).drew)))
  have HB := Lib.hid (hb2.trans ((Below.refl _ _).drew.trans h3))
  have hs2 := hb2.size
  have HO := Lib.hid (row_base h2 (show w.heap.size ≤ w2.drew.heap.size from hs2))
  clear hk hk' h2 h3 hb1 hb2 hs2
  go_region_law (first
    | (refine step_call rfl 90 #[.tmp 12] #[37] rfl Tryz.call90 HC.out rfl ?_; rintro e wn ⟨rfl, rfl⟩; refine ⟨_, rfl, ?_⟩)
    | (refine step_append_run rfl (.tmp 13) (.tmp 15) 37 rfl rfl rfl hrun ?_))
  all_goals
    go_wp2_with fail
    go_ret
    exact ⟨v', rfl, HO.out, HB.out⟩
end Go.Proofs.YtbbcepmhkocgbaaGreatDoor

/- What codec and its reference put: byte strings, lists; how long a number's form is. -/
namespace Go.Proofs.YtbbcepmhkocgbaaGreatDoor
open Go.RowKit
set_option linter.unusedVariables false

theorem Fresh.mk {w w' : World} {bs : List UInt8} {v : Value} {n : Nat} {xs : List Value} (h : w'.ownsRow w.heap.size 5 1 v n xs) (hn : n = bs.length) (hx : xs = cellsB bs) (hb : B w w') : Fresh w bs (.returned v) w' := by
  subst hn hx; exact ⟨v, rfl, h, hb⟩
/-- append onto a row of the call's own: the bytes behind it -/
theorem Fresh.app {w w1 w2 : World} {z xs : List UInt8} {A1 A2 : Option Addr} {c1 c2 : Nat} (r1 : w1.ownsRow w.heap.size 5 1 (.slice A1 z.length c1) z.length (cellsB z)) (hb : B w w1)
    (r2 : w2.ownsRow w.heap.size 5 1 (.slice A2 (z.length + xs.length) c2) (z.length + xs.length) (cellsB z ++ cellsB xs)) (x2 : w1.grownBy w2 (Value.slice A1 z.length c1).ownBlock) : Fresh w (z ++ xs) (.returned (.slice A2 (z.length + xs.length) c2)) w2 :=
  Fresh.mk r2 (by simp) (by rw [cellsB_app]) (B.grown hb x2 (fun k hk => row_ge r1 hk))

theorem Rd.byte (w : World) (b : UInt8) (y : Int) (h : (b.toNat : Int) = y) : Rd (w.alloc (.cells #[.int .u8 y] 5)) (.slice (some ⟨w.heap.size, 0, none⟩) 1 1) 1 1 (cellsB [b]) := by
  subst h
  exact Rd.lit w #[.int .u8 (b.toNat : Int)] 5 1 rfl
theorem u8i (k : Nat) (h : k < 256) : ((UInt8.ofNat k).toNat : Int) = (k : Int) := by rw [UInt8.toNat_ofNat']; congr 1; omega
theorem u64_id {x : Int} (h : 0 ≤ x ∧ x < 18446744073709551616) : IntKind.u64.wrap x = x := by
  simp [IntKind.wrap, IntKind.signed, IntKind.bits]; omega
/-- PutBytes, whichever PutNum stands in it -/
theorem putNum71 {w : World} {v : Value} {bs : List UInt8} (h : Bs w v bs) (n : Nat) (hn : n < 18446744073709551616) (hl : bs.length + 10 ≤ big) : Calls Tryz.prog 55 #[v, .int .u64 (n : Int)] w (Fresh w (bs ++ enc n)) := by
  have H := Lib.hid h
  have HE := Lib.hid (enc_10 hn)
  have HL := Lib.hid hl
  have HN := Lib.hid hn
  have g1 : 0 + bs.length ≤ maxLen := by unfold big at hl; unfold maxLen; omega
  have g2 : (0 + bs.length) * 1 ≤ 140737488355328 := by unfold big at hl; omega
  have o1 := cellsB_one bs
  clear h hn hl
  go_enter Tryz.func55, Tryz.ntmps55
  go_wp2_with (at_builtin; refine wpList_append_Rd (v := .slice none 0 0) (base := w.heap.size) rfl (.tmp 6) (.tmp 7) 37 rfl Tryz.underlying37 info5 rfl Nat.zero_lt_one rfl rfl (ownNil _ _ 5 1) H.out.rd o1 g1 g2 (Nat.le_refl _) ?_; intro A1 c1 w1 r1 x1 y1; simp only [Nat.zero_add, List.nil_append] at r1 y1; have hB1 : B w w1 := B.grown (Below.refl _ _) x1 (fun k hk => by simp [Value.ownBlock] at hk))
  have R1 := Lib.hid r1
  have HB1 := Lib.hid hB1
  clear r1 x1 y1 hB1
  go_loopw [1, 5] (fun x v wr => ∃ (m k : Nat) (z : List UInt8) (A : Option Addr) (c : Nat), x = .int .u64 (m : Int) ∧ v = .slice A k c ∧ Hid (z.length = k) ∧ Hid (m ≤ n) ∧ Hid (bs ++ enc n = z ++ enc m) ∧ Hid (wr.ownsRow w.heap.size 5 1 (.slice A k c) k (cellsB z)) ∧ Hid (B w wr)) (fun x _ _ => (intOf x).toNat)
  case atStart => exact ⟨n, bs.length, bs, A1, c1, rfl, by simp, rfl, Nat.le_refl _, rfl, R1.out, HB1.out⟩
  case round =>
    obtain ⟨m, k, z, A, c, rfl, rfl, HZ, HM, HE', HR, HB⟩ := hrel
    have hk : k + 1 ≤ bs.length + 10 := by
      have h1 := congrArg List.length HE'.out
      simp only [List.length_append] at h1
      have := enc_pos m; have := HE.out; have := HZ.out; omega
    have g3 : k + 1 ≤ maxLen := by have := HL.out; unfold big at this; unfold maxLen; omega
    have g4 : (k + 1) * 1 ≤ 140737488355328 := by have := HL.out; unfold big at this; omega
    have hbs := Lib.hid HB.out.size
    by_cases hm : 128 ≤ m
    · have hmi : (128 : Int) ≤ m := by omega
      have hw : IntKind.u64.wrap ((m : Int) / 128) = (m : Int) / 128 := u64_id (by have := HN.out; have := HM.out; omega)
      have o2 := cellsB_one [UInt8.ofNat (m % 128 + 128)]
      have hcl := Lib.hid (show ((UInt8.ofNat (m % 128 + 128)).toNat : Int) = (m : Int) % 128 + 128 by rw [u8i _ (by omega)]; omega)
      go_wp2_with (at_builtin; refine wpList_append_Rd rfl (.tmp 11) (.tmp 16) 37 rfl Tryz.underlying37 info5 rfl Nat.zero_lt_one rfl rfl (row_later HR.out (B.alloc' _ _)) (Rd.byte wr (UInt8.ofNat (m % 128 + 128)) _ hcl.out) o2 g3 g4 (Nat.le_trans hbs.out (B.alloc' _ _).size) ?_; intro A2 c2 w2 r2 x2 y2; have R2 := Lib.hid r2; have X2 := Lib.hid x2; clear r2 x2 y2)
      go_roundw
      case rel =>
        refine ⟨m / 128, k + 1, z ++ [UInt8.ofNat (m % 128 + 128)], A2, c2, by go_num, rfl, ?_, Nat.le_trans (Nat.div_le_self _ _) HM.out, ?_, ?_, ?_⟩
        · show (z ++ [_]).length = k + 1
          rw [List.length_append, HZ.out]; rfl
        · show bs ++ enc n = _
          rw [HE'.out, enc_ge (by omega), List.append_assoc]; rfl
        · show World.ownsRow _ _ _ _ _ _ _
          rw [cellsB_app]; exact R2.out
        · exact B.grown (HB.out.trans (B.alloc' _ _)) X2.out (fun g hg => row_ge HR.out hg)
      case measure => simp [intOf]; omega
    · have hmi : ¬ (128 : Int) ≤ m := by omega
      have hm256 : (m : Int) % 256 = m := by omega
      have o2 := cellsB_one [UInt8.ofNat m]
      have hcl := Lib.hid (show ((UInt8.ofNat m).toNat : Int) = (m : Int) by rw [u8i _ (by omega)])
      have hez := Lib.hid (show bs ++ enc n = z ++ [UInt8.ofNat m] by rw [HE'.out, enc_lt (by omega)])
      clear hm
      go_wp2_with (at_builtin; refine wpList_append_Rd rfl (.tmp 20) (.tmp 23) 37 rfl Tryz.underlying37 info5 rfl Nat.zero_lt_one rfl rfl (row_later HR.out (B.alloc' _ _)) (Rd.byte wr (UInt8.ofNat m) _ hcl.out) o2 g3 g4 (Nat.le_trans hbs.out (B.alloc' _ _).size) ?_; intro A2 c2 w2 r2 x2 y2; have R2 := Lib.hid r2; have X2 := Lib.hid x2; clear r2 x2 y2)
      go_ret
      exact Fresh.mk R2.out (by rw [hez.out, List.length_append, HZ.out]; rfl) (by rw [hez.out, cellsB_app]) (B.grown (HB.out.trans (B.alloc' _ _)) X2.out (fun g hg => row_ge HR.out hg))

def putB (bs xs : List UInt8) : List UInt8 := bs ++ enc xs.length ++ xs
set_option maxHeartbeats 1000000 in
theorem putBytes72 {w : World} {v u : Value} {bs xs : List UInt8} (h : Bs w v bs) (k : Bs w u xs) (hl : (bs ++ xs).length + 10 ≤ big) : Calls Tryz.prog 84 #[v, u] w (Fresh w (putB bs xs)) := by
  have hxl : xs.length < 18446744073709551616 := by have := k.len; unfold big at this; omega
  have hl' : bs.length + 10 + xs.length ≤ big := by simp at hl; omega
  have HP := Lib.hid (putNum70 h xs.length hxl (by omega))
  have h10 := enc_10 hxl
  have HK := Lib.hid k
  obtain ⟨z, hz⟩ : ∃ z, z = bs ++ enc xs.length := ⟨_, rfl⟩
  have hzl : z.length ≤ bs.length + 10 := by rw [hz, List.length_append]; omega
  rw [← hz] at HP
  have g1 : z.length + xs.length ≤ maxLen := by unfold big at hl'; unfold maxLen; omega
  have g2 : (z.length + xs.length) * 1 ≤ 140737488355328 := by unfold big at hl'; omega
  have o1 := cellsB_one xs
  have HZ := Lib.hid (show putB bs xs = z ++ xs by rw [hz]; rfl)
  have hxi : (xs.length : Int) ≤ 140737488355328 := by have := k.len; unfold big at this; omega
  rw [HZ.out]
  obtain ⟨B0, cp, rfl⟩ := HK.out.rd.slice
  clear h k hl hl' h10 hz hzl hxl
  go_enter Tryz.func84, Tryz.ntmps84
  go_wp2_with (first
    | (go_at_call 61; (with_reducible refine HP.out.mono ?_); rintro e w1 ⟨v1, rfl, r1, hb1⟩; obtain ⟨A1, c1, rfl⟩ := own_slice r1; have hb1s := hb1.size)
    | (at_builtin; refine wpList_append_Rd rfl (.tmp 9) (.tmp 10) 37 rfl Tryz.underlying37 info5 rfl Nat.zero_lt_one rfl rfl r1 (HK.out.later hb1).rd o1 g1 g2 hb1s ?_; intro A2 c2 w2 r2 x2 y2))
  go_ret
  exact Fresh.app r1 hb1 r2 x2

set_option maxHeartbeats 1000000 in
theorem putBytes73 {w : World} {v u : Value} {bs xs : List UInt8} (h : Bs w v bs) (k : Bs w u xs) (hl : (bs ++ xs).length + 10 ≤ big) : Calls Tryz.prog 76 #[v, u] w (Fresh w (putB bs xs)) := by
  have hxl : xs.length < 18446744073709551616 := by have := k.len; unfold big at this; omega
  have hl' : bs.length + 10 + xs.length ≤ big := by simp at hl; omega
  have HP := Lib.hid (putNum71 h xs.length hxl (by omega))
  have h10 := enc_10 hxl
  have HK := Lib.hid k
  obtain ⟨z, hz⟩ : ∃ z, z = bs ++ enc xs.length := ⟨_, rfl⟩
  have hzl : z.length ≤ bs.length + 10 := by rw [hz, List.length_append]; omega
  rw [← hz] at HP
  have g1 : z.length + xs.length ≤ maxLen := by unfold big at hl'; unfold maxLen; omega
  have g2 : (z.length + xs.length) * 1 ≤ 140737488355328 := by unfold big at hl'; omega
  have o1 := cellsB_one xs
  have HZ := Lib.hid (show putB bs xs = z ++ xs by rw [hz]; rfl)
  have hxi : (xs.length : Int) ≤ 140737488355328 := by have := k.len; unfold big at this; omega
  rw [HZ.out]
  obtain ⟨B0, cp, rfl⟩ := HK.out.rd.slice
  clear h k hl hl' h10 hz hzl hxl
  go_enter Tryz.func76, Tryz.ntmps76
  go_wp2_with (first
    | (go_at_call 55; (with_reducible refine HP.out.mono ?_); rintro e w1 ⟨v1, rfl, r1, hb1⟩; obtain ⟨A1, c1, rfl⟩ := own_slice r1; have hb1s := hb1.size)
    | (at_builtin; refine wpList_append_Rd rfl (.tmp 9) (.tmp 10) 37 rfl Tryz.underlying37 info5 rfl Nat.zero_lt_one rfl rfl r1 (HK.out.later hb1).rd o1 g1 g2 hb1s ?_; intro A2 c2 w2 r2 x2 y2))
  go_ret
  exact Fresh.app r1 hb1 r2 x2
end Go.Proofs.YtbbcepmhkocgbaaGreatDoor

/- Byte slices cut; which number bytes say. -/
namespace Go.Proofs.YtbbcepmhkocgbaaGreatDoor
open Go.RowKit Go.Deep
set_option linter.unusedVariables false

/-- where the bytes lie -/
theorem Bs.form {w : World} {v : Value} {bs : List UInt8} (h : Bs w v bs) : ∃ (A : Option Addr) (cap : Nat), v = .slice A bs.length cap ∧ bs.length ≤ cap ∧ cap ≤ maxLen ∧ (0 < bs.length → ∃ b off, A = some ⟨b, off, none⟩ ∧ b < w.heap.size ∧ ∀ j x, bs[j]? = some x → w.cell? ⟨b, off + j, none⟩ = some (.int .u8 (x.toNat : Int))) := by
  obtain ⟨⟨A, cap, rfl, hn, hc, hm, hr⟩, hl⟩ := h
  refine ⟨A, cap, rfl, hc, hm, fun h0 => ?_⟩
  cases A with
  | none => have := (hn rfl).1; subst this; simp at h0
  | some ad =>
    obtain ⟨h1, h2⟩ := hr ad rfl
    have c0 := h2 0 _ (cellsB_get bs 0 h0)
    have za : ad = ⟨ad.block, ad.off, none⟩ := by
      have := cell_spot c0
      simp [Addr.add] at this
      exact this
    refine ⟨ad.block, ad.off, by rw [← za], h1 (fun e => by subst e; simp at h0), fun j x hx => ?_⟩
    have hj : j < bs.length := by
      rcases Nat.lt_or_ge j bs.length with h | h
      · exact h
      · rw [List.getElem?_eq_none h] at hx; cases hx
    have := h2 j _ (cellsB_get bs j hj)
    rw [za, addr_add] at this
    rw [this]
    rw [List.getElem?_eq_getElem hj] at hx
    cases hx; rfl
end Go.Proofs.YtbbcepmhkocgbaaGreatDoor

/- The reader of codec: its place in memory; stuck, Fail, Err, Left, Done, Read. -/
namespace Go.Proofs.YtbbcepmhkocgbaaGreatDoor
open Go.RowKit
set_option linter.unusedVariables false

section
variable {W w : World} {p : Nat} {bs : List UInt8} {e : Int} {L : List Asn}
end
end Go.Proofs.YtbbcepmhkocgbaaGreatDoor

/- Num of codec's reader. -/
namespace Go.Proofs.YtbbcepmhkocgbaaGreatDoor
open Go.RowKit
set_option linter.unusedVariables false

section
variable {W w : World} {p : Nat} {bs : List UInt8} {e : Int} {L : List Asn}
end
end Go.Proofs.YtbbcepmhkocgbaaGreatDoor

/- Take, Bytes of codec's reader. -/
namespace Go.Proofs.YtbbcepmhkocgbaaGreatDoor
open Go.RowKit
set_option linter.unusedVariables false

section
variable {W w : World} {p : Nat} {bs : List UInt8} {e : Int} {L : List Asn}
end
end Go.Proofs.YtbbcepmhkocgbaaGreatDoor

/- List of codec's reader; rows of byte slices appended to. -/
namespace Go.Proofs.YtbbcepmhkocgbaaGreatDoor
open Go.RowKit
set_option linter.unusedVariables false

section
variable {W w : World} {p : Nat} {bs : List UInt8} {e : Int} {L : List Asn}
end
end Go.Proofs.YtbbcepmhkocgbaaGreatDoor

/- List of codec's reader. -/
namespace Go.Proofs.YtbbcepmhkocgbaaGreatDoor
open Go.RowKit
set_option linter.unusedVariables false

section
variable {W w : World} {p : Nat} {bs : List UInt8} {e : Int} {L : List Asn}
end
end Go.Proofs.YtbbcepmhkocgbaaGreatDoor

/- The reference's reader. -/
namespace Go.Proofs.YtbbcepmhkocgbaaGreatDoor
open Go.RowKit
set_option linter.unusedVariables false

section
variable {W w : World} {p : Nat} {bs : List UInt8} {e : Int} {L : List Asn}
end
end Go.Proofs.YtbbcepmhkocgbaaGreatDoor

/- Num of the reference's reader. -/
namespace Go.Proofs.YtbbcepmhkocgbaaGreatDoor
open Go.RowKit
set_option linter.unusedVariables false

section
variable {W w : World} {p : Nat} {bs : List UInt8} {e : Int} {L : List Asn}
end
end Go.Proofs.YtbbcepmhkocgbaaGreatDoor

/- Take, Bytes, List of the reference's reader. -/
namespace Go.Proofs.YtbbcepmhkocgbaaGreatDoor
open Go.RowKit
set_option linter.unusedVariables false

section
variable {W w : World} {p : Nat} {bs : List UInt8} {e : Int} {L : List Asn}
end
end Go.Proofs.YtbbcepmhkocgbaaGreatDoor

/- What is put is read back, and what is read was put. Plain. -/
namespace Go.Proofs.YtbbcepmhkocgbaaGreatDoor
set_option linter.unusedVariables false

end Go.Proofs.YtbbcepmhkocgbaaGreatDoor
