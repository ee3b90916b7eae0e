/- Lemmas and contracts, part 15. -/
import Derived.Test.YtafomdobfmmleaaGreatDoorZl14
import Derived.Test.YtafomdobfmmleaaGreatDoorProg
namespace Go.Proofs.YtafomdobfmmleaaGreatDoor
set_option linter.unusedVariables false
open Go.RowKit
open Go.Proofs.Tryz
set_option maxRecDepth 20000
def vZ:TT:=(.node (.node (.node (.node (.node (.node (.node (.node (.node .nil 1 ⟨1,8,[.ay],.other⟩ .nil) 2 ⟨1,8,[.int .i64 0],.int .i64⟩ .nil) 3 ⟨1,8,[.int .i64 0],.int .i64⟩ (.node (.node .nil 4 ⟨1,1,[.bool false],.bool⟩ .nil) 5 ⟨1,1,[.int .u8 0],.int .u8⟩ .nil)) 6 ⟨1,1,[.int .u8 0],.int .u8⟩ (.node (.node (.node .nil 7 ⟨4,24,[.int .i64 0,.int .i64 0,.bool false,.int .u8 0],.struct [(0,2),(1,3),(2,4),(3,6)]⟩ .nil) 8 ⟨4,24,[.int .i64 0,.int .i64 0,.bool false,.int .u8 0],.struct [(0,2),(1,3),(2,4),(3,6)]⟩ .nil) 9 ⟨1,16,[.str []],.str⟩ (.node .nil 10 ⟨1,16,[.str []],.str⟩ .nil))) 11 ⟨1,16,[.str []],.str⟩ (.node (.node (.node (.node .nil 12 ⟨1,8,[.int .u64 0],.int .u64⟩ .nil) 15 ⟨1,8,[.ff],.ptr⟩ .nil) 16 ⟨1,8,[.ff],.ptr⟩ (.node .nil 17 ⟨1,8,[.ff],.ptr⟩ .nil)) 20 ⟨1,16,[.gj true],.iface⟩ (.node (.node (.node .nil 21 ⟨1,4,[.int .i32 0],.int .i32⟩ .nil) 22 ⟨1,2,[.int .u16 0],.int .u16⟩ .nil) 23 ⟨1,2,[.int .u16 0],.int .u16⟩ (.node .nil 24 ⟨5,40,[.int .i64 0,.int .u16 0,.int .u16 0,.int .i64 0,.str []],.struct [(0,3),(1,23),(2,23),(3,3),(4,9)]⟩ .nil)))) 25 ⟨5,40,[.int .i64 0,.int .u16 0,.int .u16 0,.int .i64 0,.str []],.struct [(0,3),(1,23),(2,23),(3,3),(4,9)]⟩ (.node (.node (.node (.node (.node .nil 26 ⟨1,24,[.nils],.slice 5⟩ .nil) 27 ⟨1,8,[.ay],.other⟩ .nil) 28 ⟨1,8,[.int .i64 0],.int .i64⟩ (.node (.node .nil 30 ⟨1,8,[.ay],.other⟩ .nil) 32 ⟨1,8,[.ay],.other⟩ .nil)) 34 ⟨1,8,[.ay],.other⟩ (.node (.node (.node .nil 35 ⟨1,8,[.ay],.other⟩ .nil) 36 ⟨1,8,[.ay],.other⟩ .nil) 37 ⟨1,8,[.ay],.other⟩ (.node .nil 38 ⟨1,24,[.nils],.slice 51⟩ .nil))) 39 ⟨5,72,[.int .i64 0,.str [],.str [],.int .i64 0,.nils],.struct [(0,3),(1,9),(2,9),(3,2),(4,38)]⟩ (.node (.node (.node (.node .nil 40 ⟨5,72,[.int .i64 0,.str [],.str [],.int .i64 0,.nils],.struct [(0,3),(1,9),(2,9),(3,2),(4,38)]⟩ .nil) 41 ⟨1,8,[.int .i64 0],.int .i64⟩ .nil) 42 ⟨2,16,[.int .i64 0,.int .i64 0],.struct [(0,28),(1,2)]⟩ (.node .nil 43 ⟨2,16,[.int .i64 0,.int .i64 0],.struct [(0,28),(1,2)]⟩ .nil)) 44 ⟨1,24,[.nils],.slice 183⟩ (.node (.node (.node .nil 45 ⟨1,24,[.nils],.slice 183⟩ .nil) 46 ⟨1,24,[.nils],.slice 57⟩ .nil) 47 ⟨3,40,[.int .i64 0,.int .i64 0,.nils],.struct [(0,2),(1,41),(2,46)]⟩ (.node .nil 48 ⟨3,40,[.int .i64 0,.int .i64 0,.nils],.struct [(0,2),(1,41),(2,46)]⟩ .nil))))) 49 ⟨1,24,[.nils],.slice 145⟩ (.node (.node (.node (.node (.node (.node .nil 50 ⟨1,24,[.nils],.slice 159⟩ .nil) 51 ⟨1,24,[.nils],.slice 5⟩ .nil) 52 ⟨1,24,[.nils],.slice 187⟩ (.node (.node .nil 53 ⟨1,24,[.nils],.slice 41⟩ .nil) 54 ⟨10,152,[.str [],.int .i64 0,.nils,.nils,.int .i64 0,.int .i64 0,.nils,.int .i64 0,.int .i64 0,.nils],.struct [(0,9),(1,2),(2,51),(3,52),(4,3),(5,3),(6,53),(7,48)]⟩ .nil)) 55 ⟨10,152,[.str [],.int .i64 0,.nils,.nils,.int .i64 0,.int .i64 0,.nils,.int .i64 0,.int .i64 0,.nils],.struct [(0,9),(1,2),(2,51),(3,52),(4,3),(5,3),(6,53),(7,48)]⟩ (.node (.node (.node .nil 56 ⟨2,16,[.int .i64 0,.int .i64 0],.struct [(0,3),(1,41)]⟩ .nil) 57 ⟨2,16,[.int .i64 0,.int .i64 0],.struct [(0,3),(1,41)]⟩ .nil) 58 ⟨30,400,[.int .i64 0,.int .i64 0,.int .i64 0,.int .i64 0,.int .i64 0,.int .i64 0,.int .i64 0,.int .i64 0,.int .i64 0,.nils,.int .i64 0,.int .i64 0,.nils,.nils,.nils,.nils,.str [],.int .i64 0,.str [],.int .i64 0,.nils,.nils,.int .i64 0,.int .i64 0,.nils,.int .i64 0,.int .i64 0,.nils,.int .i64 0,.int .i64 0],.struct [(0,3),(1,3),(2,2),(3,2),(4,41),(5,3),(6,2),(7,43),(9,45),(10,48),(13,49),(14,50),(15,26),(16,9),(17,2),(18,55),(28,57)]⟩ (.node .nil 59 ⟨30,400,[.int .i64 0,.int .i64 0,.int .i64 0,.int .i64 0,.int .i64 0,.int .i64 0,.int .i64 0,.int .i64 0,.int .i64 0,.nils,.int .i64 0,.int .i64 0,.nils,.nils,.nils,.nils,.str [],.int .i64 0,.str [],.int .i64 0,.nils,.nils,.int .i64 0,.int .i64 0,.nils,.int .i64 0,.int .i64 0,.nils,.int .i64 0,.int .i64 0],.struct [(0,3),(1,3),(2,2),(3,2),(4,41),(5,3),(6,2),(7,43),(9,45),(10,48),(13,49),(14,50),(15,26),(16,9),(17,2),(18,55),(28,57)]⟩ .nil))) 60 ⟨40,528,[.int .i64 0,.int .i64 0,.int .i64 0,.int .i64 0,.str [],.str [],.int .i64 0,.nils,.nils,.int .i64 0,.int .i64 0,.int .i64 0,.int .i64 0,.int .i64 0,.int .i64 0,.int .i64 0,.int .i64 0,.int .i64 0,.nils,.int .i64 0,.int .i64 0,.nils,.nils,.nils,.nils,.str [],.int .i64 0,.str [],.int .i64 0,.nils,.nils,.int .i64 0,.int .i64 0,.nils,.int .i64 0,.int .i64 0,.nils,.int .i64 0,.int .i64 0,.bool false],.struct [(0,3),(1,3),(2,3),(3,40),(8,26),(9,59),(39,4)]⟩ (.node (.node (.node (.node .nil 61 ⟨40,528,[.int .i64 0,.int .i64 0,.int .i64 0,.int .i64 0,.str [],.str [],.int .i64 0,.nils,.nils,.int .i64 0,.int .i64 0,.int .i64 0,.int .i64 0,.int .i64 0,.int .i64 0,.int .i64 0,.int .i64 0,.int .i64 0,.nils,.int .i64 0,.int .i64 0,.nils,.nils,.nils,.nils,.str [],.int .i64 0,.str [],.int .i64 0,.nils,.nils,.int .i64 0,.int .i64 0,.nils,.int .i64 0,.int .i64 0,.nils,.int .i64 0,.int .i64 0,.bool false],.struct [(0,3),(1,3),(2,3),(3,40),(8,26),(9,59),(39,4)]⟩ .nil) 62 ⟨1,8,[.ay],.other⟩ .nil) 64 ⟨1,8,[.ay],.other⟩ (.node .nil 65 ⟨1,8,[.ay],.other⟩ .nil)) 66 ⟨1,8,[.ay],.other⟩ (.node (.node (.node .nil 67 ⟨1,24,[.nils],.slice 61⟩ .nil) 68 ⟨6,64,[.int .i64 0,.int .u16 0,.int .u16 0,.int .i64 0,.str [],.nils],.struct [(0,25),(5,67)]⟩ .nil) 69 ⟨6,64,[.int .i64 0,.int .u16 0,.int .u16 0,.int .i64 0,.str [],.nils],.struct [(0,25),(5,67)]⟩ (.node .nil 71 ⟨1,8,[.ay],.other⟩ .nil)))) 72 ⟨1,8,[.ay],.other⟩ (.node (.node (.node (.node (.node .nil 73 ⟨1,8,[.ay],.other⟩ .nil) 74 ⟨1,8,[.ay],.other⟩ .nil) 75 ⟨1,8,[.ay],.other⟩ (.node .nil 76 ⟨1,8,[.ay],.other⟩ .nil)) 77 ⟨1,8,[.ay],.other⟩ (.node (.node (.node .nil 78 ⟨1,24,[.nils],.slice 9⟩ .nil) 79 ⟨1,8,[.ay],.other⟩ .nil) 80 ⟨1,8,[.ff],.ptr⟩ (.node .nil 81 ⟨1,8,[.ay],.other⟩ .nil))) 82 ⟨1,24,[.nils],.struct [(0,78)]⟩ (.node (.node (.node (.node .nil 83 ⟨1,24,[.nils],.struct [(0,78)]⟩ .nil) 84 ⟨1,8,[.ay],.other⟩ .nil) 85 ⟨1,8,[.ay],.other⟩ (.node .nil 86 ⟨1,8,[.ay],.other⟩ .nil)) 87 ⟨1,8,[.ay],.other⟩ (.node (.node (.node .nil 89 ⟨1,8,[.ay],.other⟩ .nil) 90 ⟨1,8,[.ay],.other⟩ .nil) 91 ⟨1,8,[.int .u64 0],.int .u64⟩ (.node .nil 93 ⟨1,8,[.ay],.other⟩ .nil)))))) 95 ⟨1,8,[.ay],.other⟩ (.node (.node (.node (.node (.node (.node (.node .nil 96 ⟨1,8,[.ay],.other⟩ .nil) 98 ⟨1,8,[.ay],.other⟩ .nil) 100 ⟨1,8,[.ay],.other⟩ (.node (.node .nil 101 ⟨1,8,[.ay],.other⟩ .nil) 102 ⟨1,8,[.ay],.other⟩ .nil)) 104 ⟨1,8,[.ay],.other⟩ (.node (.node (.node .nil 106 ⟨1,8,[.ay],.other⟩ .nil) 107 ⟨1,8,[.ay],.other⟩ .nil) 108 ⟨1,8,[.ay],.other⟩ (.node .nil 110 ⟨1,8,[.ay],.other⟩ .nil))) 111 ⟨1,8,[.ay],.other⟩ (.node (.node (.node (.node .nil 112 ⟨1,8,[.ff],.ptr⟩ .nil) 113 ⟨2,32,[.ff,.nils],.struct [(0,112),(1,26)]⟩ .nil) 114 ⟨2,32,[.ff,.nils],.struct [(0,112),(1,26)]⟩ (.node .nil 115 ⟨1,16,[.gj true],.iface⟩ .nil)) 116 ⟨1,16,[.gj true],.iface⟩ (.node (.node (.node .nil 118 ⟨1,8,[.ay],.other⟩ .nil) 119 ⟨1,8,[.ay],.other⟩ .nil) 120 ⟨1,8,[.ay],.other⟩ (.node .nil 121 ⟨0,0,[],.struct []⟩ .nil)))) 122 ⟨0,0,[],.struct []⟩ (.node (.node (.node (.node (.node .nil 124 ⟨1,8,[.ay],.other⟩ .nil) 125 ⟨1,8,[.int .u64 0],.int .u64⟩ .nil) 127 ⟨1,8,[.ay],.other⟩ (.node .nil 128 ⟨1,8,[.ay],.other⟩ .nil)) 129 ⟨1,8,[.ay],.other⟩ (.node (.node (.node .nil 130 ⟨1,8,[.ay],.other⟩ .nil) 131 ⟨1,8,[.ay],.other⟩ .nil) 132 ⟨1,8,[.ay],.other⟩ (.node .nil 133 ⟨1,8,[.ay],.other⟩ .nil))) 134 ⟨1,8,[.ay],.other⟩ (.node (.node (.node (.node .nil 135 ⟨1,8,[.ay],.other⟩ .nil) 136 ⟨1,8,[.ff],.ptr⟩ .nil) 137 ⟨1,8,[.ay],.other⟩ (.node .nil 138 ⟨1,8,[.ay],.other⟩ .nil)) 139 ⟨1,8,[.ay],.other⟩ (.node (.node (.node .nil 140 ⟨1,8,[.ay],.other⟩ .nil) 142 ⟨1,8,[.ay],.other⟩ .nil) 143 ⟨1,24,[.nils],.slice 190⟩ (.node .nil 144 ⟨8,96,[.int .i64 0,.int .i64 0,.int .i64 0,.int .i64 0,.nils,.nils,.int .i64 0,.int .i64 0],.struct [(0,2),(1,3),(2,48),(5,143),(6,57)]⟩ .nil))))) 145 ⟨8,96,[.int .i64 0,.int .i64 0,.int .i64 0,.int .i64 0,.nils,.nils,.int .i64 0,.int .i64 0],.struct [(0,2),(1,3),(2,48),(5,143),(6,57)]⟩ (.node (.node (.node (.node (.node (.node .nil 146 ⟨1,8,[.ay],.other⟩ .nil) 147 ⟨1,8,[.ay],.other⟩ .nil) 148 ⟨1,8,[.ay],.other⟩ (.node (.node .nil 149 ⟨1,8,[.ay],.other⟩ .nil) 150 ⟨1,8,[.ay],.other⟩ .nil)) 151 ⟨1,8,[.ay],.other⟩ (.node (.node (.node .nil 152 ⟨1,8,[.ay],.other⟩ .nil) 153 ⟨13,112,[.int .i64 0,.int .i64 0,.int .i64 0,.int .i64 0,.int .i64 0,.int .i64 0,.int .i64 0,.int .i64 0,.int .i64 0,.int .i64 0,.str [],.int .i64 0,.int .i64 0],.struct [(0,3),(1,3),(2,3),(3,2),(4,2),(5,2),(6,2),(7,41),(8,43),(10,9),(11,57)]⟩ .nil) 154 ⟨13,112,[.int .i64 0,.int .i64 0,.int .i64 0,.int .i64 0,.int .i64 0,.int .i64 0,.int .i64 0,.int .i64 0,.int .i64 0,.int .i64 0,.str [],.int .i64 0,.int .i64 0],.struct [(0,3),(1,3),(2,3),(3,2),(4,2),(5,2),(6,2),(7,41),(8,43),(10,9),(11,57)]⟩ (.node .nil 155 ⟨1,8,[.ay],.other⟩ .nil))) 156 ⟨1,8,[.ay],.other⟩ (.node (.node (.node (.node .nil 157 ⟨1,8,[.ay],.other⟩ .nil) 158 ⟨5,56,[.int .i64 0,.int .i64 0,.nils,.int .i64 0,.int .i64 0],.struct [(0,2),(1,2),(2,45),(3,57)]⟩ .nil) 159 ⟨5,56,[.int .i64 0,.int .i64 0,.nils,.int .i64 0,.int .i64 0],.struct [(0,2),(1,2),(2,45),(3,57)]⟩ (.node .nil 160 ⟨1,8,[.ay],.other⟩ .nil)) 161 ⟨1,8,[.ff],.ptr⟩ (.node (.node (.node .nil 163 ⟨1,8,[.ay],.other⟩ .nil) 164 ⟨1,8,[.ay],.other⟩ .nil) 165 ⟨1,8,[.ay],.other⟩ (.node .nil 166 ⟨1,8,[.ay],.other⟩ .nil)))) 168 ⟨1,8,[.ay],.other⟩ (.node (.node (.node (.node (.node .nil 169 ⟨1,8,[.ay],.other⟩ .nil) 170 ⟨1,8,[.ay],.other⟩ .nil) 171 ⟨1,8,[.ff],.ptr⟩ (.node .nil 172 ⟨1,8,[.ay],.other⟩ .nil)) 173 ⟨1,8,[.ay],.other⟩ (.node (.node (.node .nil 174 ⟨1,8,[.ay],.other⟩ .nil) 175 ⟨2,32,[.nils,.int .i64 0],.struct [(0,26),(1,28)]⟩ .nil) 176 ⟨2,32,[.nils,.int .i64 0],.struct [(0,26),(1,28)]⟩ (.node .nil 177 ⟨1,8,[.ay],.other⟩ .nil))) 178 ⟨1,8,[.ay],.other⟩ (.node (.node (.node (.node .nil 179 ⟨1,8,[.ay],.other⟩ .nil) 180 ⟨7,88,[.int .i64 0,.int .i64 0,.int .i64 0,.str [],.str [],.int .i64 0,.nils],.struct [(0,3),(1,2),(2,40)]⟩ .nil) 181 ⟨7,88,[.int .i64 0,.int .i64 0,.int .i64 0,.str [],.str [],.int .i64 0,.nils],.struct [(0,3),(1,2),(2,40)]⟩ (.node .nil 182 ⟨9,104,[.int .i64 0,.int .i64 0,.int .i64 0,.str [],.str [],.int .i64 0,.nils,.int .i64 0,.int .i64 0],.struct [(0,181),(7,57)]⟩ .nil)) 183 ⟨9,104,[.int .i64 0,.int .i64 0,.int .i64 0,.str [],.str [],.int .i64 0,.nils,.int .i64 0,.int .i64 0],.struct [(0,181),(7,57)]⟩ (.node (.node (.node .nil 184 ⟨1,8,[.ay],.other⟩ .nil) 185 ⟨1,8,[.ay],.other⟩ .nil) 186 ⟨5,40,[.int .i64 0,.int .i64 0,.int .i64 0,.int .i64 0,.int .i64 0],.struct [(0,2),(1,41),(2,41),(3,41),(4,41)]⟩ (.node .nil 187 ⟨5,40,[.int .i64 0,.int .i64 0,.int .i64 0,.int .i64 0,.int .i64 0],.struct [(0,2),(1,41),(2,41),(3,41),(4,41)]⟩ .nil))))))) 188 ⟨1,8,[.ay],.other⟩ (.node (.node (.node (.node (.node (.node (.node (.node .nil 189 ⟨7,88,[.int .i64 0,.int .i64 0,.int .i64 0,.int .i64 0,.int .i64 0,.nils,.nils],.struct [(0,2),(1,2),(2,41),(3,57),(5,46),(6,45)]⟩ .nil) 190 ⟨7,88,[.int .i64 0,.int .i64 0,.int .i64 0,.int .i64 0,.int .i64 0,.nils,.nils],.struct [(0,2),(1,2),(2,41),(3,57),(5,46),(6,45)]⟩ .nil) 191 ⟨1,8,[.ay],.other⟩ (.node (.node .nil 192 ⟨1,8,[.ay],.other⟩ .nil) 193 ⟨1,8,[.ay],.other⟩ .nil)) 194 ⟨1,8,[.ay],.other⟩ (.node (.node (.node .nil 195 ⟨1,8,[.ay],.other⟩ .nil) 196 ⟨1,8,[.ff],.other⟩ .nil) 197 ⟨1,8,[.ay],.other⟩ (.node .nil 198 ⟨1,8,[.ay],.other⟩ .nil))) 199 ⟨1,8,[.ay],.other⟩ (.node (.node (.node (.node .nil 200 ⟨1,24,[.nils],.slice 3⟩ .nil) 202 ⟨1,8,[.ay],.other⟩ .nil) 203 ⟨1,8,[.ay],.other⟩ (.node .nil 204 ⟨1,8,[.int .i64 0],.int .i64⟩ .nil)) 206 ⟨1,8,[.ay],.other⟩ (.node (.node (.node .nil 207 ⟨1,8,[.ff],.ptr⟩ .nil) 208 ⟨1,8,[.ay],.other⟩ .nil) 209 ⟨1,8,[.ay],.other⟩ (.node .nil 211 ⟨1,8,[.ay],.other⟩ .nil)))) 212 ⟨1,8,[.ay],.other⟩ (.node (.node (.node (.node (.node .nil 213 ⟨1,8,[.ay],.other⟩ .nil) 214 ⟨1,8,[.ay],.other⟩ .nil) 215 ⟨1,8,[.ay],.other⟩ (.node (.node .nil 216 ⟨1,8,[.ff],.ptr⟩ .nil) 217 ⟨1,24,[.nils],.struct [(0,26)]⟩ .nil)) 218 ⟨1,24,[.nils],.struct [(0,26)]⟩ (.node (.node (.node .nil 219 ⟨1,24,[.nils],.struct [(0,218)]⟩ .nil) 220 ⟨1,24,[.nils],.struct [(0,218)]⟩ .nil) 221 ⟨1,8,[.ay],.other⟩ (.node .nil 224 ⟨1,8,[.ay],.other⟩ .nil))) 225 ⟨1,8,[.ay],.other⟩ (.node (.node (.node (.node .nil 226 ⟨1,8,[.ay],.other⟩ .nil) 227 ⟨1,8,[.ay],.other⟩ .nil) 228 ⟨1,8,[.ay],.other⟩ (.node .nil 229 ⟨1,8,[.ay],.other⟩ .nil)) 230 ⟨1,8,[.ay],.other⟩ (.node (.node (.node .nil 231 ⟨1,8,[.ay],.other⟩ .nil) 232 ⟨1,8,[.ay],.other⟩ .nil) 233 ⟨1,8,[.ay],.other⟩ (.node .nil 234 ⟨3,40,[.nils,.int .i64 0,.bool false],.struct [(0,26),(1,28),(2,4)]⟩ .nil))))) 235 ⟨3,40,[.nils,.int .i64 0,.bool false],.struct [(0,26),(1,28),(2,4)]⟩ (.node (.node (.node (.node (.node (.node .nil 236 ⟨1,8,[.ay],.other⟩ .nil) 237 ⟨1,8,[.ay],.other⟩ .nil) 238 ⟨1,8,[.ff],.struct [(0,171)]⟩ (.node (.node .nil 239 ⟨1,8,[.ff],.struct [(0,171)]⟩ .nil) 240 ⟨1,8,[.ay],.other⟩ .nil)) 241 ⟨1,8,[.ay],.other⟩ (.node (.node (.node .nil 242 ⟨1,8,[.ay],.other⟩ .nil) 243 ⟨1,8,[.ay],.other⟩ .nil) 244 ⟨1,8,[.ay],.other⟩ (.node .nil 245 ⟨1,8,[.ay],.other⟩ .nil))) 246 ⟨1,8,[.ay],.other⟩ (.node (.node (.node (.node .nil 247 ⟨1,8,[.ay],.other⟩ .nil) 248 ⟨1,8,[.ay],.other⟩ .nil) 249 ⟨1,8,[.ay],.other⟩ (.node .nil 250 ⟨1,8,[.ay],.other⟩ .nil)) 251 ⟨1,8,[.ay],.other⟩ (.node (.node (.node .nil 253 ⟨1,8,[.ay],.other⟩ .nil) 254 ⟨1,8,[.ay],.other⟩ .nil) 256 ⟨1,8,[.ay],.other⟩ (.node .nil 258 ⟨1,8,[.ay],.other⟩ .nil)))) 259 ⟨1,8,[.ay],.other⟩ (.node (.node (.node (.node (.node .nil 262 ⟨1,8,[.ay],.other⟩ .nil) 263 ⟨1,8,[.ay],.other⟩ .nil) 264 ⟨1,8,[.ay],.other⟩ (.node .nil 265 ⟨1,8,[.ay],.other⟩ .nil)) 266 ⟨1,8,[.ay],.other⟩ (.node (.node (.node .nil 267 ⟨1,8,[.ay],.other⟩ .nil) 268 ⟨1,8,[.ay],.other⟩ .nil) 269 ⟨1,8,[.ay],.other⟩ (.node .nil 270 ⟨1,8,[.ay],.other⟩ .nil))) 271 ⟨1,8,[.ay],.other⟩ (.node (.node (.node (.node .nil 272 ⟨1,8,[.ay],.other⟩ .nil) 273 ⟨1,8,[.ay],.other⟩ .nil) 274 ⟨1,24,[.nils],.slice 2⟩ (.node .nil 275 ⟨1,8,[.ay],.other⟩ .nil)) 276 ⟨1,8,[.ay],.other⟩ (.node (.node (.node .nil 277 ⟨1,8,[.ay],.other⟩ .nil) 278 ⟨1,8,[.ay],.other⟩ .nil) 279 ⟨1,8,[.ay],.other⟩ (.node .nil 280 ⟨1,8,[.ff],.ptr⟩ .nil)))))) 281 ⟨1,8,[.ay],.other⟩ (.node (.node (.node (.node (.node (.node (.node .nil 282 ⟨1,8,[.ay],.other⟩ .nil) 283 ⟨1,8,[.ay],.other⟩ .nil) 284 ⟨1,8,[.ay],.other⟩ (.node (.node .nil 285 ⟨1,8,[.ay],.other⟩ .nil) 286 ⟨1,8,[.ay],.other⟩ .nil)) 287 ⟨1,8,[.ay],.other⟩ (.node (.node (.node .nil 288 ⟨1,8,[.ay],.other⟩ .nil) 289 ⟨1,8,[.ay],.other⟩ .nil) 290 ⟨1,8,[.ay],.other⟩ (.node .nil 291 ⟨1,8,[.ay],.other⟩ .nil))) 292 ⟨1,8,[.ay],.other⟩ (.node (.node (.node (.node .nil 293 ⟨1,8,[.ay],.other⟩ .nil) 294 ⟨1,8,[.ay],.other⟩ .nil) 295 ⟨1,8,[.ay],.other⟩ (.node .nil 296 ⟨1,8,[.ay],.other⟩ .nil)) 297 ⟨1,8,[.ay],.other⟩ (.node (.node (.node .nil 298 ⟨1,8,[.ay],.other⟩ .nil) 300 ⟨1,8,[.ay],.other⟩ .nil) 301 ⟨1,8,[.ay],.other⟩ (.node .nil 302 ⟨1,8,[.ay],.other⟩ .nil)))) 303 ⟨1,8,[.ay],.other⟩ (.node (.node (.node (.node (.node .nil 304 ⟨1,4,[.int .u32 0],.int .u32⟩ .nil) 306 ⟨1,8,[.ay],.other⟩ .nil) 307 ⟨1,8,[.ay],.other⟩ (.node .nil 310 ⟨1,8,[.ay],.other⟩ .nil)) 312 ⟨2,2,[.int .u8 0,.int .u8 0],.struct [(0,5),(1,5)]⟩ (.node (.node (.node .nil 313 ⟨2,2,[.int .u8 0,.int .u8 0],.struct [(0,5),(1,5)]⟩ .nil) 315 ⟨1,8,[.ff],.ptr⟩ .nil) 316 ⟨1,16,[.str []],.struct [(0,9)]⟩ (.node .nil 317 ⟨1,16,[.str []],.struct [(0,9)]⟩ .nil))) 318 ⟨1,8,[.ay],.other⟩ (.node (.node (.node (.node .nil 319 ⟨1,8,[.int .i64 0],.struct [(0,28)]⟩ .nil) 320 ⟨1,8,[.int .i64 0],.struct [(0,28)]⟩ .nil) 321 ⟨1,8,[.ff],.ptr⟩ (.node .nil 322 ⟨1,8,[.ay],.other⟩ .nil)) 323 ⟨1,8,[.ay],.other⟩ (.node (.node (.node .nil 324 ⟨1,8,[.ay],.other⟩ .nil) 325 ⟨1,8,[.ay],.other⟩ .nil) 326 ⟨1,8,[.ay],.other⟩ (.node .nil 327 ⟨1,8,[.ay],.other⟩ .nil))))) 328 ⟨1,8,[.ay],.other⟩ (.node (.node (.node (.node (.node (.node .nil 329 ⟨1,8,[.ay],.other⟩ .nil) 330 ⟨1,8,[.ay],.other⟩ .nil) 331 ⟨1,8,[.ay],.other⟩ (.node (.node .nil 332 ⟨1,8,[.ay],.other⟩ .nil) 333 ⟨1,8,[.ay],.other⟩ .nil)) 334 ⟨1,8,[.ay],.other⟩ (.node (.node (.node .nil 335 ⟨1,8,[.ay],.other⟩ .nil) 336 ⟨1,8,[.ay],.other⟩ .nil) 337 ⟨1,8,[.ay],.other⟩ (.node .nil 338 ⟨1,8,[.ay],.other⟩ .nil))) 339 ⟨1,8,[.ay],.other⟩ (.node (.node (.node (.node .nil 340 ⟨1,8,[.ay],.other⟩ .nil) 341 ⟨1,8,[.ay],.other⟩ .nil) 342 ⟨1,8,[.ay],.other⟩ (.node .nil 343 ⟨1,8,[.ay],.other⟩ .nil)) 344 ⟨1,8,[.ay],.other⟩ (.node (.node (.node .nil 345 ⟨1,8,[.ay],.other⟩ .nil) 346 ⟨1,8,[.ay],.other⟩ .nil) 347 ⟨1,8,[.ay],.other⟩ (.node .nil 348 ⟨1,8,[.ay],.other⟩ .nil)))) 349 ⟨1,8,[.ay],.other⟩ (.node (.node (.node (.node (.node .nil 350 ⟨1,8,[.ay],.other⟩ .nil) 351 ⟨1,8,[.ff],.ptr⟩ .nil) 352 ⟨1,8,[.ay],.other⟩ (.node .nil 353 ⟨1,8,[.ay],.other⟩ .nil)) 354 ⟨1,8,[.ay],.other⟩ (.node (.node (.node .nil 355 ⟨1,8,[.ay],.other⟩ .nil) 356 ⟨1,24,[.nils],.slice 183⟩ .nil) 357 ⟨1,24,[.nils],.slice 28⟩ (.node .nil 358 ⟨1,8,[.ay],.other⟩ .nil))) 359 ⟨1,8,[.ay],.other⟩ (.node (.node (.node (.node .nil 360 ⟨1,8,[.ay],.other⟩ .nil) 361 ⟨1,8,[.ay],.other⟩ .nil) 364 ⟨1,8,[.ay],.other⟩ (.node .nil 365 ⟨1,8,[.ay],.other⟩ .nil)) 371 ⟨1,1,[.int .u8 0],.int .u8⟩ (.node (.node (.node .nil 372 ⟨1,1,[.int .u8 0],.int .u8⟩ .nil) 373 ⟨1,8,[.ay],.other⟩ .nil) 374 ⟨1,4,[.int .i32 0],.int .i32⟩ (.node .nil 375 ⟨1,4,[.int .i32 0],.int .i32⟩ .nil))))))))
def GU (p:Nat->qY->Bool):TT->Bool
 |.nil=>true
 |.node l t i r=>GU p l&&(p t i&&GU p r)
theorem JP {p:Nat->qY->Bool}:∀{tb:TT} {t:Nat} {i:qY},GU p tb=true->tb.look t=some i->p t i=true
 |.nil,_,_,_,h=>by simp[TT.look] at h
 |.node l t' i' r,t,i,ha,h=>by
  simp only[GU,Bool.and_eq_true] at ha
  simp only[TT.look] at h
  cases hb:Nat.beq t t' with
  |true=>
   rw[hb] at h
   injection h with h
   subst h
   cases Nat.eq_of_beq_eq_true hb
   exact ha.2.1
  |false=>
   rw[hb] at h
   cases hl:Nat.blt t t' with
   |true=>rw[hl] at h;exact JP ha.1 h
   |false=>rw[hl] at h;exact JP ha.2.2 h
def Nc:D->D->Bool
 |.bool a,.bool b=>a==b
 |.int k a,.int l b=>k==l&&a==b
 |.str [],.str []=>true
 |.nils,.nils=>true
 |.ff,.ff=>true
 |.ay,.ay=>true
 |.kL,.kL=>true
 |.gj a,.gj b=>a==b
 |_,_=>false
theorem adP {a b:D} (h:Nc a b=true):a=b:=by
 unfold Nc at h
 split at h<;>simp_all
def B5:List Value->List D->Bool
 |[],[]=>true
 |v::vs,d::ds=>(match zD v with|some e=>Nc e d|none=>false)&&B5 vs ds
 |_,_=>false
theorem P8:∀(vs:List Value) (ds:List D),B5 vs ds=true->Gv vs ds
 |[],[],_=>trivial
 |v::vs,d::ds,h=>by
  simp only[B5,Bool.and_eq_true] at h
  refine⟨?_,P8 vs ds h.2⟩
  cases hz:zD v with
  |none=>rw[hz] at h;cases h.1
  |some e=>rw[hz] at h;rw[adP h.1]
 |[],_::_,h=>by simp[B5] at h
 |_::_,[],h=>by simp[B5] at h
def Nd (P:Program) (t:Nat) (i:qY):Bool:=
 match P.info? t with
 |some inf=>inf.size==i.size&&inf.bytes==i.bytes&&(uQ P t i.kind&&(!i.kind.isRow||GP P t))&&(match inf.zero with
  |some z=>B5 z.cells.toList i.zero&&z.cells.size==i.size&&((match z with|.agg _=>true|_=>false)==i.kind.isRow)
  |none=>false)
 |none=>false
theorem adQ {P:Program} {t:Nat} {i:qY} (h:Nd P t i=true):i.ok P t:=by
 unfold Nd at h
 split at h
 ·rename_i inf hi
  simp only[Bool.and_eq_true,beq_iff_eq] at h
  obtain⟨⟨⟨h1,h2⟩,h3,h5⟩,h4⟩:=h
  split at h4
  ·rename_i z hz
   simp only[Bool.and_eq_true,beq_iff_eq] at h4
   obtain⟨⟨k1,k2⟩,k3⟩:=h4
   refine⟨⟨inf,z,hi,h1,h2,hz,P8 _ _ k1,k2,?_⟩,h3,fun hr=>by simpa[hr] using h5⟩
   rw[<-k3]
   cases z<;>simp
  ·cases h4
 ·cases h
theorem YM:vZ.ok prog:=fun t i h=>adQ (JP (p:=Nd prog) (by kernel_rfl) h)
section
set_option linter.unusedSectionVars false
variable [Wd]
noncomputable def xR (E:En) (ops l:List Oper):S->(S->T)->T:=
 List.rec (motive:=fun _=>S->(S->T)->T) (fun s k=>k s) (fun o _ ih s k=>DV E ops o s (fun s'=>ih s' k)) l
theorem Sf (E:En) (ops:List Oper):∀(l:List Oper) (s:S) (k:S->T),xR E ops l s k=Ai E ops l s k
 |[],s,k=>rfl
 |o::r,s,k=>by
  show DV E ops o s (fun s'=>xR E ops r s' k)=DV E ops o s (fun s'=>Ai E ops r s' k)
  rw[show(fun s'=>xR E ops r s' k)=fun s'=>Ai E ops r s' k from funext fun s'=>Sf E ops r s' k]
noncomputable def xA (E:En) (ops:List Oper) (hr:List AO) (md:List Nat) (pl:PT):Bool->S->(S->T)->T:=
 PT.rec (motive:=fun _=>Bool->S->(S->T)->T) (fun _ s k=>k s) (fun i al _ ih gr s k=>tO E ops hr md i al gr (fun g s'=>ih g s' k) s)
   (fun i _ _ AQ EI gr s k=>.both (tO E ops hr md i true gr (fun g s'=>AQ g s' k) s) (EI gr s k)) pl
theorem aeQ (E:En) (ops:List Oper) (hr:List AO) (md:List Nat) (pl:PT):∀(gr:Bool) (s:S) (k:S->T),xA E ops hr md pl gr s k=pV E ops hr md pl gr s k:=by
 induction pl with
 |done=>exact fun _ _ _=>rfl
 |one i al r ih=>
  intro gr s k
  show tO E ops hr md i al gr (fun g s'=>xA E ops hr md r g s' k) s=tO E ops hr md i al gr (fun g s'=>pV E ops hr md r g s' k) s
  rw[show(fun g s'=>xA E ops hr md r g s' k)=fun g s'=>pV E ops hr md r g s' k from funext fun g=>funext fun s'=>ih g s' k]
 |alt i a r AQ EI=>
  intro gr s k
  show T.both (tO E ops hr md i true gr (fun g s'=>xA E ops hr md a g s' k) s) (xA E ops hr md r gr s k)=T.both (tO E ops hr md i true gr (fun g s'=>pV E ops hr md a g s' k) s) (pV E ops hr md r gr s k)
  rw[show(fun g s'=>xA E ops hr md a g s' k)=fun g s'=>pV E ops hr md a g s' k from funext fun g=>funext fun s'=>AQ g s' k,EI]
noncomputable def xC (E:En) (m:Nat) (PL:List (Nat×mD)) (c:Code):S->(Exit->S->T)->T:=
 Code.rec (motive:=fun _=>S->(Exit->S->T)->T)
  (fun s K=>K .normal s)
  (fun id ops dr s K=>match dr with
    |false=>xR E ops.toList ops.toList s (K .normal)
    |true=>bif DW PL id then .fail 65 else xA E ops.toList s.h (yH PL id ops.toList s).md (yH PL id ops.toList s).t false s (K .normal))
  (fun _ _ a b s K=>a s fun e s'=>match e with
    |.normal=>b s' K
    |e=>K e s')
  (fun c _ _ a b s K=>match ev s c with
    |.bool v=>bT v (a s K) (b s K)
    |_=>.fail 70)
  (fun id _ c s K=>c s fun e s'=>match e with
    |.exit wJ=>bif Nat.beq wJ id then K .normal s' else K (.exit wJ) s'
    |e=>K e s')
  (fun _ c s K=>.loop m s (fun s'=>c s' .leaf) K)
  (fun _ _ _ _ _ _ _ _=>.fail 71)
  (fun id s K=>K (.exit id) s)
  (fun _ _ _ _=>.fail 71)
  (fun _ _ _=>.fail 71)
  (fun _ _ _=>.fail 71)
  (fun s K=>K .ret s)
  (fun _ _ _=>.fail 71) c
theorem Ac (E:En) (m:Nat) (PL:List (Nat×mD)):∀(c:Code) (s:S) (K:Exit->S->T),xC E m PL c s K=oP E m PL c s K
 |.skip,s,K=>rfl
 |.region id ops false,s,K=>Sf E ops.toList ops.toList s (K .normal)
 |.region id ops true,s,K=>by
  show(bif DW PL id then T.fail 65 else xA E ops.toList s.h (yH PL id ops.toList s).md (yH PL id ops.toList s).t false s (K .normal))=_
  rw[aeQ]
  rfl
 |.seq a b,s,K=>by
  show xC E m PL a s (fun e s'=>match e with
   |.normal=>xC E m PL b s' K
   |e=>K e s')=_
  rw[Ac E m PL a]
  show _=oP E m PL a s (fun e s'=>match e with
   |.normal=>oP E m PL b s' K
   |e=>K e s')
  congr 1
  funext e s'
  cases e<;>first|exact Ac E m PL b s' K|rfl
 |.cond c a b,s,K=>by
  show(match ev s c with
   |.bool v=>bT v (xC E m PL a s K) (xC E m PL b s K)
   |_=>.fail 70:T)=_
  rw[Ac E m PL a,Ac E m PL b]
  rfl
 |.block id c,s,K=>Ac E m PL c s _
 |.loop c,s,K=>by
  show T.loop m s (fun s'=>xC E m PL c s' .leaf) K=_
  rw[show(fun s'=>xC E m PL c s' .leaf)=fun s'=>oP E m PL c s' .leaf from funext fun s'=>Ac E m PL c s' .leaf]
  rfl
 |.exit id,s,K=>rfl
 |.ret,s,K=>rfl
 |.rangeFunc _ _ _ _,s,K=>rfl
 |.scope _,s,K=>rfl
 |.label _,s,K=>rfl
 |.goto _,s,K=>rfl
 |.refuse _,s,K=>rfl
end
theorem DX [Wd] (dt:Bool) {f:FuncId} {fn:Func} {c:Code} {ar:List D} {h:List AO} {cZ:D->List AO->Prop} (n:Nat) (PL:List (Nat×mD)) (hf:prog.funcs[f]?=some fn)
 (hx:(xC ⟨vZ,n,dt,0⟩ h.length PL c ⟨xy 0 ar,h⟩ .leaf).ok prog (Lf vZ fn.results.toList h cZ)) (hb:fn.body=some c:=by rfl) (hn:(Nat.beq fn.ntmps n&&(Nat.ble ar.length n&&(rj prog f&&rQ PL c)))=true:=by kernel_rfl):bC prog f ar h cZ:=by
 simp only[Bool.and_eq_true] at hn
 rw[Ac] at hx
 exact bC.aaX (E:=⟨vZ,n,dt,0⟩) hf hb (Nat.eq_of_beq_eq_true hn.1) YM (by kernel_rfl) hn.2.2.1 rfl (Nat.le_of_ble_eq_true hn.2.1) hn.2.2.2 hx
theorem iV [Wd] {f:FuncId} {fn:Func} {c:Code} {ar:List D} {h:List AO} {cZ:D->List AO->Prop} (n:Nat) (PL:List (Nat×mD)) (hf:prog.funcs[f]?=some fn)
 (hx:(xC ⟨vZ,n,true,0⟩ h.length PL c ⟨xy 0 ar,h⟩ .leaf).ok prog (Lf vZ fn.results.toList h cZ)) (hb:fn.body=some c:=by rfl) (hn:(Nat.beq fn.ntmps n&&(Nat.ble ar.length n&&(rj prog f&&rQ PL c)))=true:=by kernel_rfl):bC prog f ar h cZ:=DX true n PL hf hx hb hn
def Ad:List (Nat×tE)->List (Nat×mD)
 |[]=>[]
 |(i,p)::r=>(i,p.t)::Ad r
theorem kK [Wd] (dt:Bool) {f:FuncId} {fn:Func} {c:Code} {ar:List D} {h:List AO} {cZ:D->List AO->Prop} (n:Nat) (PL:List (Nat×tE)) (hf:prog.funcs[f]?=some fn)
 (hx:(xC ⟨vZ,n,dt,0⟩ h.length (Ad PL) c ⟨xy 0 ar,h⟩ .leaf).ok prog (Lf vZ fn.results.toList h cZ)) (hb:fn.body=some c:=by rfl) (hn:(Nat.beq fn.ntmps n&&(Nat.ble ar.length n&&(rj prog f&&rQ (Ad PL) c)))=true:=by kernel_rfl):bC prog f ar h cZ:=DX dt n (Ad PL) hf hx hb hn
theorem ak [Wd] {f:FuncId} {fn:Func} {c:Code} {ar:List D} {h:List AO} {cZ:D->List AO->Prop} (n:Nat) (PL:List (Nat×tE)) (hf:prog.funcs[f]?=some fn)
 (hx:(xC ⟨vZ,n,true,0⟩ h.length (Ad PL) c ⟨xy 0 ar,h⟩ .leaf).ok prog (Lf vZ fn.results.toList h cZ)) (hb:fn.body=some c:=by rfl) (hn:(Nat.beq fn.ntmps n&&(Nat.ble ar.length n&&(rj prog f&&rQ (Ad PL) c)))=true:=by kernel_rfl):bC prog f ar h cZ:=DX true n (Ad PL) hf hx hb hn
instance S1:Wd where
 A:=fun _=>False
 W:=fun _ _=>True
 kY:=fun _=>False
 aI:=fun _ _ h=>h.elim
 cl:=fun _ _ _=>trivial
class Ae [Wd]:Prop where
 np:∀ch,¬Wd.kY ch
instance:@Ae S1:=@Ae.mk S1 (fun _ h=>h)
theorem bC.old [Wd] {P:Program} {f:FuncId} {ar:List D} {r:D} {v:Value} (hv:∀I w,Dr I w v r) (xz:rj P f=true) (h:∀w I vs,dQ I w vs ar->Calls P f vs.toArray w fun e w'=>e=.returned v/\B w w') (hp:ga.pl ar=true):bC P f ar [] (fun r' h'=>r'=r/\h'=[]):=by
 refine⟨xz,fun w I g vs _ hd ha=>(h w I vs (ur ha hp)).mono ?_⟩
 rintro e w' ⟨rfl,hb⟩
 have hg:g=[]:=List.eq_nil_of_length_eq_zero hd.len
 subst hg
 exact .inl ⟨v,I,[],r,[],rfl,⟨rfl,rfl⟩,hd.later hb,.rd (hv I w'),Ext.of_B hb,fun _ h=>h,fun _ h=>.inl h,fun b h=>.inl h,fun o p t cs _ h=>by simp at h⟩
section
theorem cj {e:Int} (h1:-9223372036854775808<=e) (h2:e<=9223372036854775807):IntKind.i64.wrap e=e:=by
 simp only[IntKind.wrap,IntKind.signed,IntKind.bits]
 simp
 omega
theorem bZ [Wd] {P:Program} {Q:Exit->S->Prop} {e:Int} {c:Int->T} (h:-9223372036854775808<=e/\e<=9223372036854775807) (k:(c e).ok P Q):(T.wrap .i64 e c).ok P Q:=bw (cj h.1 h.2) k
theorem gJ [Wd] {P:Program} {Q:Exit->S->Prop} {e:Int} {c:Int->T} (k:(c e).ok P Q) (h:-9223372036854775808<=e/\e<=9223372036854775807:=by omega):(T.wrap .i64 e c).ok P Q:=bZ h k
theorem oF {α:Type} (f:α->Int) {l:List α} {q:Nat} {x:α} (h:l[q]?=some x):bG f (l.take (q+1))=aF (bG f (l.take q)) (f x):=by
 rw[List.take_add_one,h]
 exact V9 f _ x
abbrev qQ (e:Int):List AO:=[.cells 320 [.int .i64 e]]
abbrev nO [Wd] (f:FuncId) (ar:List D) (x:Int):Prop:=∀e:Int,bC prog f (.ptr 0 0::ar) (qQ e) (fun r h=>r=.aj []/\h=qQ (aF e x))
section
variable {Q:Exit->S->Prop}
theorem fQ [Wd] {f:FuncId} {ar bR:List D} {x e:Int} {hb:List AO} {c:D->List AO->T} (o:Nat) (hF:nO f ar x) (hv:jF hb [o] [o] (qQ e)) (hc:aa bR (D.bO.rl [o] (.ptr 0 0::ar))) (hM:([o].all fun o=>(jT hb bR).elem o)=true) (k:(c (.aj []) (lK hb [o] (qQ e) (qQ (aF e x)))).ok prog Q):(T.call f bR hb c).ok prog Q:=
 mA [o] (hF e) (.mk' rfl hv) hc hM k
theorem qq [Wd] {f:FuncId} {ar bR:List D} {x e:Int} {hb:List AO} {c:D->List AO->T} (o:Nat) (hF:nO f ar x) (k:(c (.aj []) (lK hb [o] (qQ e) (qQ (aF e x)))).ok prog Q) (hv:jF hb [o] [o] (qQ e):=by exact⟨⟨rfl,rfl⟩,trivial⟩) (hc:aa bR (D.bO.rl [o] (.ptr 0 0::ar)):=by exact aa.refl _) (hM:([o].all fun o=>(jT hb bR).elem o)=true:=by exact rfl):(T.call f bR hb c).ok prog Q:=
 fQ o hF hv hc hM k
theorem pJ [Wd] {tb:TT} {rs:List ResultVar} {ex:Exit} {s:S} {e e':Int} {ds:List D} (σ:List Nat) (he:ex=.normal\/ex=.ret) (hr:iD tb s rs=some ds) (hn:nodupB σ=true) (hv:jF s.h σ σ (qQ e')) (hk:tg 0 (qQ e) σ (qQ e')) (iw:Co (lI ds) (.aj [])) {x:Int} (hx:e'=aF e x):(T.leaf ex s).ok prog (Lf tb rs (qQ e) (fun r h=>r=.aj []/\h=qQ (aF e x))):=by
 subst hx
 exact mL σ he hr hn hv hk iw
end
theorem yA [Wd] (x:Int):nO 295 [.int .i64 x] x:=by
 intro e
 refine ak 13 [] func295 ?_
 repeat' ((conv=>arg 2;whnf);first|apply an<;>intro h|refine pJ [0] (.inl rfl) rfl rfl ⟨⟨rfl,rfl⟩,trivial⟩ ⟨⟨rfl,rfl⟩,trivial⟩ (.refl _) ?_)
 all_goals simp_all [aF]
theorem BR [Wd] (n a b:Int):nO 294 [.int .i64 n,.int .i64 a,.int .i64 b] (cQ n a b):=by
 intro e
 refine ak 18 [] func294 ?_
 repeat' ((conv=>arg 2;whnf);first|apply an<;>intro h|refine fQ 0 (yA _) ⟨⟨rfl,rfl⟩,trivial⟩ (aa.refl _) rfl ?_|refine pJ [0] (.inl rfl) rfl rfl ⟨⟨rfl,rfl⟩,trivial⟩ ⟨⟨rfl,rfl⟩,trivial⟩ (.refl _) ?_)
 all_goals simp_all [cQ]
 all_goals (split<;>first|rfl|omega|(rw[gH]))
theorem wT [Wd] (n:Int):nO 299 [.int .i64 n] (cP n):=by
 intro e
 refine ak 7 [] func299 ?_
 repeat' ((conv=>arg 2;whnf);first|refine fQ 0 (BR _ _ _) ⟨⟨rfl,rfl⟩,trivial⟩ (aa.refl _) rfl ?_|exact pJ [0] (.inl rfl) rfl rfl ⟨⟨rfl,rfl⟩,trivial⟩ ⟨⟨rfl,rfl⟩,trivial⟩ (.refl _) rfl)
theorem zy [Wd] (n:Int):nO 300 [.int .i64 n] (gd n):=by
 intro e
 refine ak 7 [] func300 ?_
 repeat' ((conv=>arg 2;whnf);first|refine fQ 0 (BR _ _ _) ⟨⟨rfl,rfl⟩,trivial⟩ (aa.refl _) rfl ?_|exact pJ [0] (.inl rfl) rfl rfl ⟨⟨rfl,rfl⟩,trivial⟩ ⟨⟨rfl,rfl⟩,trivial⟩ (.refl _) rfl)
theorem EW [Wd] (n:Int):nO 298 [.int .i64 n] (ke n):=by
 intro e
 refine ak 7 [] func298 ?_
 repeat' ((conv=>arg 2;whnf);first|refine fQ 0 (BR _ _ _) ⟨⟨rfl,rfl⟩,trivial⟩ (aa.refl _) rfl ?_|exact pJ [0] (.inl rfl) rfl rfl ⟨⟨rfl,rfl⟩,trivial⟩ ⟨⟨rfl,rfl⟩,trivial⟩ (.refl _) rfl)
theorem zm [Wd] (n m:Int):nO 304 [.int .i64 n,.int .i64 m] (cQ n 0 m):=by
 intro e
 refine ak 10 [] func304 ?_
 repeat' ((conv=>arg 2;whnf);first|refine fQ 0 (BR _ _ _) ⟨⟨rfl,rfl⟩,trivial⟩ (aa.refl _) rfl ?_|exact pJ [0] (.inl rfl) rfl rfl ⟨⟨rfl,rfl⟩,trivial⟩ ⟨⟨rfl,rfl⟩,trivial⟩ (.refl _) rfl)
theorem Di [Wd] (s:bJ):aq prog 307 [.agg (bL s)] (.int .i64 (dw s)):=by
 refine ak 21 [] func307 ?_
 repeat' ((conv=>arg 2;whnf);first|apply an<;>intro h|refine cF ?_)
 all_goals simp_all [dw]
 all_goals omega
theorem NX [Wd] (l:List bJ) (hl:l.length<=4194304):nO 318 [.list 2 (l.map bL)] (lQ l):=by
 intro e
 refine ak 21 [] func318 ?_
 repeat' ((conv=>arg 2;whnf);first|refine fQ 0 (zm _ _) ⟨⟨rfl,rfl⟩,trivial⟩ (aa.refl _) rfl ?_)
 refine bE (α:=Nat×Int) (fun a=>⟨[(12,.int .i64 a.1),(11,.int .i64 (l.map bL).length),(10,.list 2 (l.map bL)),(0,.ptr 0 0)],qQ a.2⟩) (fun a=>a.1<=l.length/\a.2=aF (aF e (jd l.length 13)) (bG dw (l.take a.1))) (fun a=>l.length-a.1) (0,_) ⟨Nat.zero_le _,by simp[bG,gH,jd];rfl⟩ (Sv.aK [0] rfl rfl rfl) ?_
 rintro⟨q,e'⟩ ⟨hq,he⟩
 repeat' (conv=>arg 2;whnf);first|apply an<;>intro h|refine cK (by simpa using h) (fun x hx=>?_)|refine okF (Di x) ?_|refine fQ 0 (yA _) ⟨⟨rfl,rfl⟩,trivial⟩ (aa.refl _) rfl ?_|refine bZ (by simp at h hq;omega) ?_|refine aZ (q+1,_) (Sv.aK [0] rfl rfl rfl) ⟨?_,?_⟩ ?_|refine bq ?_|refine pJ [0] (.inl rfl) rfl rfl ⟨⟨rfl,rfl⟩,trivial⟩ ⟨⟨rfl,rfl⟩,trivial⟩ (.refl _) ?_
 ·show q+1<=l.length
  simp at h;omega
 ·show aF e' (dw x)=_
  rw[oF dw hx,<-eZ,<-he]
 ·simp at h ⊢;omega
 ·rw[he,show l.take q=l from List.take_of_length_le (by simp at h;omega),lQ,eZ]
end
theorem DY {α:Type} [DecidableEq α] (a b:α):(a==b)=cx a b:=by
 by_cases h:a=b
 ·rw[zz h];simp[h]
 ·rw[Bi h];simp[h]
theorem yQ {α:Type} [DecidableEq α] (a b:α):decide (a=b)=cx a b:=DY a b
theorem oG {α:Type} {l k:List α} (h:¬l.length=k.length):cx l k=false:=Bi (fun e=>h (by rw[e]))
theorem oH {α:Type} {l k:List α} {q:Nat} (hl:l.length=k.length) (hq:¬q<l.length) (he:l.take q=k.take q):cx l k=true:=by
 refine zz ?_
 rw[List.take_of_length_le (by omega),List.take_of_length_le (by omega)] at he
 exact he
theorem oK {α:Type} {l k:List α} {q:Nat} {x y:α} (hx:l[q]?=some x) (hy:k[q]?=some y) (h:cx x y=false):cx l k=false:=by
 refine Bi (fun e=>?_)
 subst e
 rw[hx] at hy
 injection hy with hy
 rw[zz hy] at h
 cases h
theorem oL {α:Type} {l k:List α} {q:Nat} {x y:α} (hx:l[q]?=some x) (hy:k[q]?=some y) (h:cx x y=true) (he:l.take q=k.take q):l.take (q+1)=k.take (q+1):=by
 rw[List.take_add_one,List.take_add_one,hx,hy,he,kU.1 h]
theorem FE (a b:bJ):((a.key==b.key)&&(a.ah==b.ah))=cx a b:=by
 cases a;cases b
 rw[Bool.eq_iff_iff,kU];simp
theorem FF (a b:j7):(((((a.seq==b.seq)&&(a.prev==b.prev))&&(a.batch==b.batch))&&(a.root==b.root))&&(a.state==b.state))=cx a b:=by
 cases a;cases b
 rw[Bool.eq_iff_iff,kU];simp[and_assoc]
theorem Dx (a b:bt):cx a b=((a.kind==b.kind)&&decide (a.av=b.av)&&decide (a.group=b.group)&&(a.offset==b.offset)&&cx a.records b.records):=by
 obtain⟨a0,a1,a2,a3,a4⟩:=a
 obtain⟨b0,b1,b2,b3,b4⟩:=b
 rw[Bool.eq_iff_iff,kU]
 simp[kU,and_assoc]
theorem NH (a b:ju):cx a b=((a.bD==b.bD)&&(a.time==b.time)&&cx a.op b.op):=by
 obtain⟨a0,a1,a2⟩:=a
 obtain⟨b0,b1,b2⟩:=b
 rw[Bool.eq_iff_iff,kU]
 simp[kU,and_assoc]
theorem IB (a b:bX):cx a b=(cx a.request b.request&&(a.sign.key==b.sign.key)&&(a.sign.ah==b.sign.ah)):=by
 obtain⟨a0,⟨ahL,ahA⟩⟩:=a
 obtain⟨b0,⟨ahM,ahB⟩⟩:=b
 rw[Bool.eq_iff_iff,kU]
 simp[kU,and_assoc]
theorem Pa (a b:gX):cx a b=((a.seq==b.seq)&&(a.ah==b.ah)&&cx a.cM b.cM):=by
 obtain⟨a0,a1,a2⟩:=a
 obtain⟨b0,b1,b2⟩:=b
 rw[Bool.eq_iff_iff,kU]
 simp[kU,and_assoc]
theorem Nu (a b:jt):cx a b=((a.view==b.view)&&(a.seq==b.seq)&&(a.ah==b.ah)&&(a.kG.key==b.kG.key)&&(a.kG.ah==b.kG.ah)&&cx a.cM b.cM&&cx a.batch b.batch):=by
 obtain⟨a0,a1,a2,⟨ad3,YX⟩,a4,a5⟩:=a
 obtain⟨b0,b1,b2,⟨ad4,YY⟩,b4,b5⟩:=b
 rw[Bool.eq_iff_iff,kU]
 simp[kU,and_assoc]
theorem CR (a b:cX):cx a b=((a.view==b.view)&&(a.src==b.src)&&cx a.cert b.cert&&cx a.cD b.cD&&(a.sign.key==b.sign.key)&&(a.sign.ah==b.sign.ah)):=by
 obtain⟨a0,a1,a2,a3,⟨ahN,ahC⟩⟩:=a
 obtain⟨b0,b1,b2,b3,⟨ahO,ahD⟩⟩:=b
 rw[Bool.eq_iff_iff,kU]
 simp[kU,and_assoc]
theorem IV (a b:gq):cx a b=((a.view==b.view)&&(a.seq==b.seq)&&cx a.batch b.batch&&(a.sign.key==b.sign.key)&&(a.sign.ah==b.sign.ah)):=by
 obtain⟨a0,a1,a2,⟨ad3,YX⟩⟩:=a
 obtain⟨b0,b1,b2,⟨ad4,YY⟩⟩:=b
 rw[Bool.eq_iff_iff,kU]
 simp[kU,and_assoc]
theorem zn (a b:jX):cx a b=(decide (a.av=b.av)&&(a.offset==b.offset)&&cx a.record b.record&&cx a.headers b.headers&&(a.index==b.index)&&(a.count==b.count)&&cx a.path b.path&&cx a.cert b.cert):=by
 obtain⟨a0,a1,a2,a3,a4,a5,a6,a7⟩:=a
 obtain⟨b0,b1,b2,b3,b4,b5,b6,b7⟩:=b
 rw[Bool.eq_iff_iff,kU]
 simp[kU,and_assoc]
theorem By (a b:aD):cx a b=((a.kind==b.kind)&&(a.src==b.src)&&(a.view==b.view)&&(a.seq==b.seq)&&(a.ah==b.ah)&&(a.bD==b.bD)&&(a.time==b.time)&&(a.result.err==b.result.err)&&(a.result.offset==b.result.offset)&&cx a.batch b.batch&&cx a.cert b.cert&&cx a.changes b.changes&&cx a.entries b.entries&&cx a.state b.state&&decide (a.av=b.av)&&(a.offset==b.offset)&&cx a.proof b.proof&&(a.sign.key==b.sign.key)&&(a.sign.ah==b.sign.ah)):=by
 obtain⟨a0,a1,a2,a3,a4,a5,a6,⟨ahP,ahE⟩,a8,a9,yX,a11,a12,a13,a14,a15,⟨ahH,ahy⟩⟩:=a
 obtain⟨b0,b1,b2,b3,b4,b5,b6,⟨ahQ,ahF⟩,b8,b9,tX,b11,wD,S3,S4,b15,⟨ahI,ahz⟩⟩:=b
 rw[Bool.eq_iff_iff,kU]
 simp[kU,and_assoc]
theorem Qp (a b:bK):cx a b=((a.kind==b.kind)&&(a.bA==b.bA)&&(a.num==b.num)&&cx a.op b.op&&cx a.bytes b.bytes&&cx a.msg b.msg&&(a.jN==b.jN)):=by
 obtain⟨a0,a1,a2,a3,a4,a5,a6⟩:=a
 obtain⟨b0,b1,b2,b3,b4,b5,b6⟩:=b
 rw[Bool.eq_iff_iff,kU]
 simp[kU,and_assoc]
theorem GJ [Wd] (a b:List UInt8) (ha:a.length<=4194304) (hb:b.length<=4194304):aq prog 16 [.list 1 (a.map af),.list 1 (b.map af)] (.bool (cx a b)):=by
 refine ak 10 [] func16 ?_
 repeat' (conv=>arg 2;whnf);first|refine j8 a rfl ?_|refine j8 b rfl ?_|refine aT (by omega) ?_|(refine cL ?_;exact yQ a b)
theorem YZ [Wd] (a b:List UInt8) (ha:a.length<=4194304) (hb:b.length<=4194304):aq prog 88 [.list 1 (a.map af),.list 1 (b.map af)] (.bool (cx a b)):=by
 refine ak 8 [] func88 ?_
 repeat' (conv=>arg 2;whnf);first|refine okF (GJ a b ha hb) ?_|refine cL rfl
theorem aa8 [Wd] (l k:List (List UInt8)) (hl:(dL dY).ok l) (hk:(dL dY).ok k):aq prog 87 [.list 1 (l.map gS),.list 1 (k.map gS),.fn 88 0 []] (.bool (cx l k)):=by
 have HL:l.length<=4194304:=hl.1
 refine ak 32 [] func87 ?_
 repeat' (conv=>arg 2;whnf);first|apply an<;>intro h|(refine cL ?_;exact(oG (by simp at h;omega)).symm)
 have hn:l.length=k.length:=by simp at h;omega
 refine bE (α:=Nat) (fun q=>⟨[(17,.int .i64 q),(16,.int .i64 (l.map gS).length),(15,.list 1 (l.map gS)),(2,.fn 88 0 []),(1,.list 1 (k.map gS))],[]⟩) (fun q=>q<=l.length/\l.take q=k.take q) (fun q=>l.length-q) 0 ⟨Nat.zero_le _,rfl⟩ (Sv.aK []) ?_
 rintro q ⟨hq,he⟩
 repeat' (conv=>arg 2;whnf);first|apply an<;>intro h|refine cK (l:=l) (by simp at h;omega) (fun x hx=>?_)|refine cK (l:=k) (by simp at h;omega) (fun y hy=>?_)|refine okF (YZ x y (hl.2 x (List.mem_of_getElem? hx)) (hk.2 y (List.mem_of_getElem? hy))) ?_|refine bw (cj (by simp at h hq;omega) (by have:=HL;simp at h hq;omega)) ?_|refine aZ (q+1) (Sv.aK []) ⟨by have:=(List.getElem?_eq_some_iff.1 hx).1;omega,oL hx hy (by simpa using h) he⟩ (by have:=(List.getElem?_eq_some_iff.1 hx).1;omega)|refine bq ?_|refine eG ?_|(refine cL ?_;have hl:=oK hx hy (by simpa using h);exact hl.symm;done)|(have hl:=oH hn (by simp at h;omega) he;refine cL ?_;exact hl.symm;done)
theorem JX [Wd] (a b:bt) (ha:fD.ok a) (hb:fD.ok b):aq prog 53 [.agg (cC a),.agg (cC b)] (.bool (cx a b)):=by
 refine ak 38 [] func53 ?_
 repeat' (conv=>arg 2;whnf);first|apply an<;>intro h|refine okF (aa8 a.records b.records ha.2.2.2.2 hb.2.2.2.2) ?_|(refine cL ?_;rw[Dx];simp_all;done)
theorem Y0 [Wd] (a b:bX) (ha:fX.ok a) (hb:fX.ok b):aq prog 131 [.agg (bI a),.agg (bI b)] (.bool (cx a b)):=by
 refine ak 37 [] func131 ?_
 repeat' (conv=>arg 2;whnf);first|apply an<;>intro h|refine okF (JX a.request.op b.request.op ha.1.2.2 hb.1.2.2) ?_|(refine cL ?_;rw[IB,NH];simp_all;done)
theorem Wc [Wd] (l k:List (bX)) (hl:(dL fX).ok l) (hk:(dL fX).ok k):aq prog 130 [.list 9 (l.map bI),.list 9 (k.map bI),.fn 131 0 []] (.bool (cx l k)):=by
 have HL:l.length<=4194304:=hl.1
 refine ak 32 [] func130 ?_
 repeat' (conv=>arg 2;whnf);first|apply an<;>intro h|(refine cL ?_;exact(oG (by simp at h;omega)).symm)
 have hn:l.length=k.length:=by simp at h;omega
 refine bE (α:=Nat) (fun q=>⟨[(17,.int .i64 q),(16,.int .i64 (l.map bI).length),(15,.list 9 (l.map bI)),(2,.fn 131 0 []),(1,.list 9 (k.map bI))],[]⟩) (fun q=>q<=l.length/\l.take q=k.take q) (fun q=>l.length-q) 0 ⟨Nat.zero_le _,rfl⟩ (Sv.aK []) ?_
 rintro q ⟨hq,he⟩
 repeat' (conv=>arg 2;whnf);first|apply an<;>intro h|refine cK (l:=l) (by simp at h;omega) (fun x hx=>?_)|refine cK (l:=k) (by simp at h;omega) (fun y hy=>?_)|refine okF (Y0 x y (hl.2 x (List.mem_of_getElem? hx)) (hk.2 y (List.mem_of_getElem? hy))) ?_|refine bw (cj (by simp at h hq;omega) (by have:=HL;simp at h hq;omega)) ?_|refine aZ (q+1) (Sv.aK []) ⟨by have:=(List.getElem?_eq_some_iff.1 hx).1;omega,oL hx hy (by simpa using h) he⟩ (by have:=(List.getElem?_eq_some_iff.1 hx).1;omega)|refine bq ?_|refine eG ?_|(refine cL ?_;have hl:=oK hx hy (by simpa using h);exact hl.symm;done)|(have hl:=oH hn (by simp at h;omega) he;refine cL ?_;exact hl.symm;done)
theorem JY [Wd] (l k:List bX) (hl:(dL fX).ok l) (hk:(dL fX).ok k):aq prog 90 [.list 9 (l.map bI),.list 9 (k.map bI)] (.bool (cx l k)):=by
 refine ak 8 [] func90 ?_
 repeat' (conv=>arg 2;whnf);first|refine okF (Wc l k hl hk) ?_|refine cL rfl
theorem Oq [Wd] (l k:List (bJ)) (hl:l.length<=4194304):aq prog 132 [.list 2 (l.map bL),.list 2 (k.map bL)] (.bool (cx l k)):=by
 have HL:l.length<=4194304:=hl
 refine ak 26 [] func132 ?_
 repeat' (conv=>arg 2;whnf);first|apply an<;>intro h|(refine cL ?_;exact(oG (by simp at h;omega)).symm)
 have hn:l.length=k.length:=by simp at h;omega
 refine bE (α:=Nat) (fun q=>⟨[(13,.int .i64 q),(12,.int .i64 (l.map bL).length),(0,.list 2 (l.map bL)),(1,.list 2 (k.map bL))],[]⟩) (fun q=>q<=l.length/\l.take q=k.take q) (fun q=>l.length-q) 0 ⟨Nat.zero_le _,rfl⟩ (Sv.aK []) ?_
 rintro q ⟨hq,he⟩
 repeat' (conv=>arg 2;whnf);first|apply an<;>intro h|refine cK (l:=l) (by simp at h;omega) (fun x hx=>?_)|refine cK (l:=k) (by simp at h;omega) (fun y hy=>?_)|refine bw (cj (by simp at h hq;omega) (by have:=HL;simp at h hq;omega)) ?_|refine aZ (q+1) (Sv.aK []) ⟨by have:=(List.getElem?_eq_some_iff.1 hx).1;omega,oL hx hy (by rw[<-FE];rw[Bool.true_and] at h;first|exact(Bool.not_eq_true' _).mp h|exact(Bool.not_eq_false' _).mp h) he⟩ (by have:=(List.getElem?_eq_some_iff.1 hx).1;omega)|refine bq ?_|refine eG ?_|(refine cL ?_;have hl:=oK hx hy (by rw[<-FE];rw[Bool.true_and] at h;first|exact(Bool.not_eq_true' _).mp h|exact(Bool.not_eq_false' _).mp h);exact hl.symm;done)|(have hl:=oH hn (by simp at h;omega) he;refine cL ?_;exact hl.symm;done)
theorem Vy [Wd] (l k:List (j7)) (hl:l.length<=4194304):aq prog 135 [.list 5 (l.map eO),.list 5 (k.map eO)] (.bool (cx l k)):=by
 have HL:l.length<=4194304:=hl
 refine ak 26 [] func135 ?_
 repeat' (conv=>arg 2;whnf);first|apply an<;>intro h|(refine cL ?_;exact(oG (by simp at h;omega)).symm)
 have hn:l.length=k.length:=by simp at h;omega
 refine bE (α:=Nat) (fun q=>⟨[(13,.int .i64 q),(12,.int .i64 (l.map eO).length),(0,.list 5 (l.map eO)),(1,.list 5 (k.map eO))],[]⟩) (fun q=>q<=l.length/\l.take q=k.take q) (fun q=>l.length-q) 0 ⟨Nat.zero_le _,rfl⟩ (Sv.aK []) ?_
 rintro q ⟨hq,he⟩
 repeat' (conv=>arg 2;whnf);first|apply an<;>intro h|refine cK (l:=l) (by simp at h;omega) (fun x hx=>?_)|refine cK (l:=k) (by simp at h;omega) (fun y hy=>?_)|refine bw (cj (by simp at h hq;omega) (by have:=HL;simp at h hq;omega)) ?_|refine aZ (q+1) (Sv.aK []) ⟨by have:=(List.getElem?_eq_some_iff.1 hx).1;omega,oL hx hy (by rw[<-FF];rw[Bool.true_and] at h;first|exact(Bool.not_eq_true' _).mp h|exact(Bool.not_eq_false' _).mp h) he⟩ (by have:=(List.getElem?_eq_some_iff.1 hx).1;omega)|refine bq ?_|refine eG ?_|(refine cL ?_;have hl:=oK hx hy (by rw[<-FF];rw[Bool.true_and] at h;first|exact(Bool.not_eq_true' _).mp h|exact(Bool.not_eq_false' _).mp h);exact hl.symm;done)|(have hl:=oH hn (by simp at h;omega) he;refine cL ?_;exact hl.symm;done)
theorem Vz [Wd] (l k:List (Int)) (hl:l.length<=4194304):aq prog 136 [.list 1 (l.map eD),.list 1 (k.map eD)] (.bool (cx l k)):=by
 have HL:l.length<=4194304:=hl
 refine ak 26 [] func136 ?_
 repeat' (conv=>arg 2;whnf);first|apply an<;>intro h|(refine cL ?_;exact(oG (by simp at h;omega)).symm)
 have hn:l.length=k.length:=by simp at h;omega
 refine bE (α:=Nat) (fun q=>⟨[(13,.int .i64 q),(12,.int .i64 (l.map eD).length),(0,.list 1 (l.map eD)),(1,.list 1 (k.map eD))],[]⟩) (fun q=>q<=l.length/\l.take q=k.take q) (fun q=>l.length-q) 0 ⟨Nat.zero_le _,rfl⟩ (Sv.aK []) ?_
 rintro q ⟨hq,he⟩
 repeat' (conv=>arg 2;whnf);first|apply an<;>intro h|refine cK (l:=l) (by simp at h;omega) (fun x hx=>?_)|refine cK (l:=k) (by simp at h;omega) (fun y hy=>?_)|refine bw (cj (by simp at h hq;omega) (by have:=HL;simp at h hq;omega)) ?_|refine aZ (q+1) (Sv.aK []) ⟨by have:=(List.getElem?_eq_some_iff.1 hx).1;omega,oL hx hy (by rw[<-DY];simpa using h) he⟩ (by have:=(List.getElem?_eq_some_iff.1 hx).1;omega)|refine bq ?_|refine eG ?_|(refine cL ?_;have hl:=oK hx hy (by rw[<-DY];simpa using h);exact hl.symm;done)|(have hl:=oH hn (by simp at h;omega) he;refine cL ?_;exact hl.symm;done)
theorem IC [Wd] (a b:gX) (ha:je.ok a) (hb:je.ok b):aq prog 91 [.agg (mj a),.agg (mj b)] (.bool (cx a b)):=by
 refine ak 24 [] func91 ?_
 repeat' (conv=>arg 2;whnf);first|apply an<;>intro h|refine okF (Oq a.cM b.cM ha.2.2.1) ?_|(refine cL ?_;rw[Pa];simp_all;done)
theorem We [Wd] (a b:jt) (ha:oC.ok a) (hb:oC.ok b):aq prog 134 [.agg (fk a),.agg (fk b)] (.bool (cx a b)):=by
 refine ak 45 [] func134 ?_
 repeat' (conv=>arg 2;whnf);first|apply an<;>intro h|refine okF (Oq a.cM b.cM ha.2.2.2.2.1.1) ?_|refine okF (JY a.batch b.batch ha.2.2.2.2.2 hb.2.2.2.2.2) ?_|(refine cL ?_;rw[Nu];simp_all;done)
theorem Y1 [Wd] (l k:List (jt)) (hl:(dL oC).ok l) (hk:(dL oC).ok k):aq prog 133 [.list 7 (l.map fk),.list 7 (k.map fk),.fn 134 0 []] (.bool (cx l k)):=by
 have HL:l.length<=4194304:=hl.1
 refine ak 32 [] func133 ?_
 repeat' (conv=>arg 2;whnf);first|apply an<;>intro h|(refine cL ?_;exact(oG (by simp at h;omega)).symm)
 have hn:l.length=k.length:=by simp at h;omega
 refine bE (α:=Nat) (fun q=>⟨[(17,.int .i64 q),(16,.int .i64 (l.map fk).length),(15,.list 7 (l.map fk)),(2,.fn 134 0 []),(1,.list 7 (k.map fk))],[]⟩) (fun q=>q<=l.length/\l.take q=k.take q) (fun q=>l.length-q) 0 ⟨Nat.zero_le _,rfl⟩ (Sv.aK []) ?_
 rintro q ⟨hq,he⟩
 repeat' (conv=>arg 2;whnf);first|apply an<;>intro h|refine cK (l:=l) (by simp at h;omega) (fun x hx=>?_)|refine cK (l:=k) (by simp at h;omega) (fun y hy=>?_)|refine okF (We x y (hl.2 x (List.mem_of_getElem? hx)) (hk.2 y (List.mem_of_getElem? hy))) ?_|refine bw (cj (by simp at h hq;omega) (by have:=HL;simp at h hq;omega)) ?_|refine aZ (q+1) (Sv.aK []) ⟨by have:=(List.getElem?_eq_some_iff.1 hx).1;omega,oL hx hy (by simpa using h) he⟩ (by have:=(List.getElem?_eq_some_iff.1 hx).1;omega)|refine bq ?_|refine eG ?_|(refine cL ?_;have hl:=oK hx hy (by simpa using h);exact hl.symm;done)|(have hl:=oH hn (by simp at h;omega) he;refine cL ?_;exact hl.symm;done)
theorem U8 [Wd] (a b:cX) (ha:fP.ok a) (hb:fP.ok b):aq prog 93 [.agg (bU a),.agg (bU b)] (.bool (cx a b)):=by
 refine ak 38 [] func93 ?_
 repeat' (conv=>arg 2;whnf);first|apply an<;>intro h|refine okF (IC a.cert b.cert ha.2.2.1 hb.2.2.1) ?_|refine okF (Y1 a.cD b.cD ha.2.2.2.1 hb.2.2.2.1) ?_|(refine cL ?_;rw[CR];simp_all;done)
theorem VA [Wd] (a b:gq) (ha:jx.ok a) (hb:jx.ok b):aq prog 95 [.agg (dV a),.agg (dV b)] (.bool (cx a b)):=by
 refine ak 31 [] func95 ?_
 repeat' (conv=>arg 2;whnf);first|apply an<;>intro h|refine okF (JY a.batch b.batch ha.2.2.1 hb.2.2.1) ?_|(refine cL ?_;rw[IV];simp_all;done)
theorem VB [Wd] (a b:jX) (ha:jY.ok a) (hb:jY.ok b):aq prog 96 [.agg (jv a),.agg (jv b)] (.bool (cx a b)):=by
 refine ak 59 [] func96 ?_
 repeat' (conv=>arg 2;whnf);first|apply an<;>intro h|refine okF (GJ a.record b.record ha.2.2.1 hb.2.2.1) ?_|refine okF (Vy a.headers b.headers ha.2.2.2.1.1) ?_|refine okF (Vz a.path b.path ha.2.2.2.2.2.2.1.1) ?_|refine okF (IC a.cert b.cert ha.2.2.2.2.2.2.2 hb.2.2.2.2.2.2.2) ?_|(refine cL ?_;rw[zn];simp_all;done)
theorem Wf [Wd] (l k:List (cX)) (hl:(dL fP).ok l) (hk:(dL fP).ok k):aq prog 92 [.list 8 (l.map bU),.list 8 (k.map bU),.fn 93 0 []] (.bool (cx l k)):=by
 have HL:l.length<=4194304:=hl.1
 refine ak 32 [] func92 ?_
 repeat' (conv=>arg 2;whnf);first|apply an<;>intro h|(refine cL ?_;exact(oG (by simp at h;omega)).symm)
 have hn:l.length=k.length:=by simp at h;omega
 refine bE (α:=Nat) (fun q=>⟨[(17,.int .i64 q),(16,.int .i64 (l.map bU).length),(15,.list 8 (l.map bU)),(2,.fn 93 0 []),(1,.list 8 (k.map bU))],[]⟩) (fun q=>q<=l.length/\l.take q=k.take q) (fun q=>l.length-q) 0 ⟨Nat.zero_le _,rfl⟩ (Sv.aK []) ?_
 rintro q ⟨hq,he⟩
 repeat' (conv=>arg 2;whnf);first|apply an<;>intro h|refine cK (l:=l) (by simp at h;omega) (fun x hx=>?_)|refine cK (l:=k) (by simp at h;omega) (fun y hy=>?_)|refine okF (U8 x y (hl.2 x (List.mem_of_getElem? hx)) (hk.2 y (List.mem_of_getElem? hy))) ?_|refine bw (cj (by simp at h hq;omega) (by have:=HL;simp at h hq;omega)) ?_|refine aZ (q+1) (Sv.aK []) ⟨by have:=(List.getElem?_eq_some_iff.1 hx).1;omega,oL hx hy (by simpa using h) he⟩ (by have:=(List.getElem?_eq_some_iff.1 hx).1;omega)|refine bq ?_|refine eG ?_|(refine cL ?_;have hl:=oK hx hy (by simpa using h);exact hl.symm;done)|(have hl:=oH hn (by simp at h;omega) he;refine cL ?_;exact hl.symm;done)
theorem Xk [Wd] (l k:List (gq)) (hl:(dL jx).ok l) (hk:(dL jx).ok k):aq prog 94 [.list 5 (l.map dV),.list 5 (k.map dV),.fn 95 0 []] (.bool (cx l k)):=by
 have HL:l.length<=4194304:=hl.1
 refine ak 32 [] func94 ?_
 repeat' (conv=>arg 2;whnf);first|apply an<;>intro h|(refine cL ?_;exact(oG (by simp at h;omega)).symm)
 have hn:l.length=k.length:=by simp at h;omega
 refine bE (α:=Nat) (fun q=>⟨[(17,.int .i64 q),(16,.int .i64 (l.map dV).length),(15,.list 5 (l.map dV)),(2,.fn 95 0 []),(1,.list 5 (k.map dV))],[]⟩) (fun q=>q<=l.length/\l.take q=k.take q) (fun q=>l.length-q) 0 ⟨Nat.zero_le _,rfl⟩ (Sv.aK []) ?_
 rintro q ⟨hq,he⟩
 repeat' (conv=>arg 2;whnf);first|apply an<;>intro h|refine cK (l:=l) (by simp at h;omega) (fun x hx=>?_)|refine cK (l:=k) (by simp at h;omega) (fun y hy=>?_)|refine okF (VA x y (hl.2 x (List.mem_of_getElem? hx)) (hk.2 y (List.mem_of_getElem? hy))) ?_|refine bw (cj (by simp at h hq;omega) (by have:=HL;simp at h hq;omega)) ?_|refine aZ (q+1) (Sv.aK []) ⟨by have:=(List.getElem?_eq_some_iff.1 hx).1;omega,oL hx hy (by simpa using h) he⟩ (by have:=(List.getElem?_eq_some_iff.1 hx).1;omega)|refine bq ?_|refine eG ?_|(refine cL ?_;have hl:=oK hx hy (by simpa using h);exact hl.symm;done)|(have hl:=oH hn (by simp at h;omega) he;refine cL ?_;exact hl.symm;done)
def ad5 (a:aD):List D:=[.int .i64 a.kind,.int .i64 a.src,.int .i64 a.bD,.int .i64 a.view,.int .i64 a.seq,.int .i64 a.time,.int .i64 a.offset,.int .i64 a.ah,.int .i64 a.result.err,.int .i64 a.result.offset,.str a.av,.int .i64 a.sign.key,.int .i64 a.sign.ah]
theorem Y2 [Wd] (a:aD):aq prog 89 [.agg (aC a)] (.agg (ad5 a)):=by
 refine ak 26 [] func89 ?_
 repeat' (conv=>arg 2;whnf);first|refine cg
theorem Qo [Wd] (a b:aD) (ha:bh.ok a) (hb:bh.ok b):aq prog 54 [.agg (aC a),.agg (aC b)] (.bool (cx a b)):=by
 refine ak 52 [(1,⟨[(0,false),(2,false),(1,true),(3,true),(4,false),(5,false),(6,false),(7,false),(8,false),(9,false),(10,true),(11,false),(12,false),(13,false),(14,false),(15,false),(16,false),(17,true),(18,false),(19,false),(20,false),(21,false),(22,false),(23,false),(24,true),(25,false),(26,false),(27,false),(28,false),(29,false),(30,false),(31,true),(32,false),(33,false),(34,false),(35,false),(36,false),(37,false),(38,true),(39,false),(40,false),(41,false),(42,false),(43,false),(44,false),(45,true),(46,false),(47,false)],[]⟩)] func54 ?_
 repeat' (conv=>arg 2;whnf);first|apply an<;>intro h|refine okF (Y2 _) ?_|refine okF (JY a.batch b.batch ha.2.2.2.2.2.2.2.2.1 hb.2.2.2.2.2.2.2.2.1) ?_|refine okF (IC a.cert b.cert ha.2.2.2.2.2.2.2.2.2.1 hb.2.2.2.2.2.2.2.2.2.1) ?_|refine okF (Wf a.changes b.changes ha.2.2.2.2.2.2.2.2.2.2.1 hb.2.2.2.2.2.2.2.2.2.2.1) ?_|refine okF (Xk a.entries b.entries ha.2.2.2.2.2.2.2.2.2.2.2.1 hb.2.2.2.2.2.2.2.2.2.2.2.1) ?_|refine okF (GJ a.state b.state ha.2.2.2.2.2.2.2.2.2.2.2.2.1 hb.2.2.2.2.2.2.2.2.2.2.2.2.1) ?_|refine okF (VB a.proof b.proof ha.2.2.2.2.2.2.2.2.2.2.2.2.2.2.2.1 hb.2.2.2.2.2.2.2.2.2.2.2.2.2.2.2.1) ?_|(refine cL ?_;rw[By];simp_all;done)
theorem JZ [Wd] (a b:bK) (ha:gh.ok a) (hb:gh.ok b):aq prog 22 [.agg (cr a),.agg (cr b)] (.bool (cx a b)):=by
 refine ak 52 [] func22 ?_
 repeat' (conv=>arg 2;whnf);first|apply an<;>intro h|refine okF (JX a.op b.op ha.2.2.2.1 hb.2.2.2.1) ?_|refine okF (GJ a.bytes b.bytes ha.2.2.2.2.1 hb.2.2.2.2.1) ?_|refine okF (Qo a.msg b.msg ha.2.2.2.2.2.1 hb.2.2.2.2.2.1) ?_|(refine cL ?_;rw[Qp];simp_all;done)
theorem wX [Wd] {P:Program} {Q:Exit->S->Prop} {α:Type} {l:List α} {f:α->List D} {q:Nat} {x:α} {c:List D->T} (hx:l[q]?=some x) (h:(c (f x)).ok P Q):(T.nth (l.map f) (q:Int) c).ok P Q:=
 ⟨f x,Int.natCast_nonneg q,by simp[hx],h⟩
theorem Pb [Wd] (l k:List (bJ)) (hl:l.length<=4194304):aq prog 128 [.list 2 (l.map bL),.list 2 (k.map bL)] (.bool (cx l k)):=by
 have HL:l.length<=4194304:=hl
 refine ak 26 [] func128 ?_
 repeat' (conv=>arg 2;whnf);first|apply an<;>intro h|(refine cL ?_;exact(oG (by simp at h;omega)).symm)
 have hn:l.length=k.length:=by simp at h;omega
 refine bE (α:=Nat) (fun q=>⟨[(5,.int .i64 q),(0,.list 2 (l.map bL)),(1,.list 2 (k.map bL))],[]⟩) (fun q=>q<=l.length/\l.take q=k.take q) (fun q=>l.length-q) 0 ⟨Nat.zero_le _,rfl⟩ (Sv.aK []) ?_
 rintro q ⟨hq,he⟩
 repeat' (conv=>arg 2;whnf);first|apply an<;>intro h|refine cK (l:=l) (by simp at h;omega) (fun x hx=>?_)|refine cK (l:=k) (by simp at h;omega) (fun y hy=>?_)|refine bw (cj (by simp at h hq;omega) (by have:=HL;simp at h hq;omega)) ?_|refine aZ (q+1) (Sv.aK []) ⟨by have:=(List.getElem?_eq_some_iff.1 hx).1;omega,oL hx hy (by rw[<-FE];rw[Bool.true_and] at h;first|exact(Bool.not_eq_true' _).mp h|exact(Bool.not_eq_false' _).mp h) he⟩ (by have:=(List.getElem?_eq_some_iff.1 hx).1;omega)|refine bq ?_|refine eG ?_|(refine cL ?_;have hl:=oK hx hy (by rw[<-FE];rw[Bool.true_and] at h;first|exact(Bool.not_eq_true' _).mp h|exact(Bool.not_eq_false' _).mp h);exact hl.symm;done)|(have hl:=oH hn (by simp at h;omega) he;refine cL ?_;exact hl.symm;done)
theorem J0 [Wd] (a b:gX) (ha:je.ok a) (hb:je.ok b):aq prog 83 [.agg (mj a),.agg (mj b)] (.bool (cx a b)):=by
 refine ak 24 [] func83 ?_
 repeat' (conv=>arg 2;whnf);first|apply an<;>intro h|refine okF (Pb a.cM b.cM ha.2.2.1) ?_|(refine cL ?_;rw[Pa];simp_all;done)
theorem RX [Wd] (a b:bt) (ha:fD.ok a) (hb:fD.ok b):aq prog 51 [.agg (cC a),.agg (cC b)] (.bool (cx a b)):=by
 refine ak 61 [] func51 ?_
 repeat' (conv=>arg 2;whnf);first|apply an<;>intro h|(refine cL ?_;rw[Dx];simp_all;done)|(refine cL ?_;rw[Dx,oG (l:=a.records) (k:=b.records) (by simp at h;omega)];simp;done)
 have HL:a.records.length<=4194304:=ha.2.2.2.2.1
 have hl:=ha.2.2.2.2
 have hk:=hb.2.2.2.2
 have hn:a.records.length=b.records.length:=by
  have e:(a.records.length:Int)=b.records.length:=by simp_all
  omega
 refine bE (α:=Nat) (fun q=>⟨[(5,.int .i64 q),(2,.ptr 0 0),(3,.ptr 1 0)],[.cells 40 (cC a),.cells 40 (cC b)]⟩) (fun q=>q<=a.records.length/\a.records.take q=b.records.take q) (fun q=>a.records.length-q) 0 ⟨Nat.zero_le _,rfl⟩ (Sv.aK [0,1]) ?_
 rintro q ⟨hq,he⟩
 repeat' (conv=>arg 2;whnf);first|apply an<;>intro h|refine cK (l:=a.records) (by simp at h;omega) (fun x hx=>?_)|refine cK (l:=b.records) (by simp at h;omega) (fun y hy=>?_)|refine j8 x rfl ?_|refine j8 y rfl ?_|refine aT (by have h2:y.length<=4194304:=hk.2 y (List.mem_of_getElem? hy);omega) ?_|refine aT (by have h1:x.length<=4194304:=hl.2 x (List.mem_of_getElem? hx);omega) ?_|refine bw (cj (by simp at h hq;omega) (by have:=HL;simp at h hq;omega)) ?_|refine aZ (q+1) (Sv.aK [0,1]) ⟨by have:=(List.getElem?_eq_some_iff.1 hx).1;omega,oL hx hy (by rw[<-yQ];simpa using h) he⟩ (by have:=(List.getElem?_eq_some_iff.1 hx).1;omega)|refine bq ?_|refine eG ?_|(refine cL ?_;have hl:=oK hx hy (by rw[<-yQ];simpa using h);rw[Dx,hl];simp;done)|(have hl:=oH hn (by simp at h;omega) he;refine cL ?_;rw[Dx];simp_all;done)
theorem acN [Wd] (a b:ju) (ha:su.ok a) (hb:su.ok b):aq prog 127 [.agg (sw a),.agg (sw b)] (.bool (cx a b)):=by
 refine ak 24 [] func127 ?_
 repeat' (conv=>arg 2;whnf);first|apply an<;>intro h|refine okF (RX a.op b.op ha.2.2 hb.2.2) ?_|(refine cL ?_;rw[NH];simp_all;done)
theorem Jr [Wd] (l k:List (bX)) (hl:(dL fX).ok l) (hk:(dL fX).ok k):aq prog 82 [.list 9 (l.map bI),.list 9 (k.map bI)] (.bool (cx l k)):=by
 have HL:l.length<=4194304:=hl.1
 refine ak 42 [] func82 ?_
 repeat' (conv=>arg 2;whnf);first|apply an<;>intro h|(refine cL ?_;exact(oG (by simp at h;omega)).symm)
 have hn:l.length=k.length:=by simp at h;omega
 refine bE (α:=Nat) (fun q=>⟨[(5,.int .i64 q),(0,.list 9 (l.map bI)),(1,.list 9 (k.map bI))],[]⟩) (fun q=>q<=l.length/\l.take q=k.take q) (fun q=>l.length-q) 0 ⟨Nat.zero_le _,rfl⟩ (Sv.aK []) ?_
 rintro q ⟨hq,he⟩
 repeat' (conv=>arg 2;whnf);first|apply an<;>intro h|refine wX hx ?_|refine wX hy ?_|refine cK (l:=l) (by simp at h;omega) (fun x hx=>?_)|refine cK (l:=k) (by simp at h;omega) (fun y hy=>?_)|refine okF (acN x.request y.request (hl.2 x (List.mem_of_getElem? hx)).1 (hk.2 y (List.mem_of_getElem? hy)).1) ?_|refine bw (cj (by simp at h hq;omega) (by have:=HL;simp at h hq;omega)) ?_|refine aZ (q+1) (Sv.aK []) ⟨by have:=(List.getElem?_eq_some_iff.1 hx).1;omega,oL hx hy (by rw[IB];simp_all) he⟩ (by have:=(List.getElem?_eq_some_iff.1 hx).1;omega)|refine bq ?_|refine eG ?_|(refine cL ?_;have hl:=oK hx hy (by rw[IB];simp_all);exact hl.symm;done)|(have hl:=oH hn (by simp at h;omega) he;refine cL ?_;exact hl.symm;done)
theorem aa9 [Wd] (a b:jt) (ha:oC.ok a) (hb:oC.ok b):aq prog 129 [.agg (fk a),.agg (fk b)] (.bool (cx a b)):=by
 refine ak 45 [] func129 ?_
 repeat' (conv=>arg 2;whnf);first|apply an<;>intro h|refine okF (Pb a.cM b.cM ha.2.2.2.2.1.1) ?_|refine okF (Jr a.batch b.batch ha.2.2.2.2.2 hb.2.2.2.2.2) ?_|(refine cL ?_;rw[Nu];simp_all;done)
theorem Xl [Wd] (a b:cX) (ha:fP.ok a) (hb:fP.ok b):aq prog 86 [.agg (bU a),.agg (bU b)] (.bool (cx a b)):=by
 refine ak 61 [] func86 ?_
 repeat' (conv=>arg 2;whnf);first|apply an<;>intro h|refine okF (J0 a.cert b.cert ha.2.2.1 hb.2.2.1) ?_|(refine cL ?_;rw[CR];simp_all;done)|(refine cL ?_;rw[CR,oG (l:=a.cD) (k:=b.cD) (by simp at h;omega)];simp;done)
 have HL:a.cD.length<=4194304:=ha.2.2.2.1.1
 have hl:=ha.2.2.2.1
 have hk:=hb.2.2.2.1
 have hn:a.cD.length=b.cD.length:=by
  have e:(a.cD.length:Int)=b.cD.length:=by simp_all
  omega
 refine bE (α:=Nat) (fun q=>⟨[(5,.int .i64 q),(2,.ptr 0 0),(3,.ptr 1 0)],[.cells 145 (bU a),.cells 145 (bU b)]⟩) (fun q=>q<=a.cD.length/\a.cD.take q=b.cD.take q) (fun q=>a.cD.length-q) 0 ⟨Nat.zero_le _,rfl⟩ (Sv.aK [0,1]) ?_
 rintro q ⟨hq,he⟩
 repeat' (conv=>arg 2;whnf);first|apply an<;>intro h|refine cK (l:=a.cD) (by simp at h;omega) (fun x hx=>?_)|refine cK (l:=b.cD) (by simp at h;omega) (fun y hy=>?_)|refine okF (aa9 x y (hl.2 x (List.mem_of_getElem? hx)) (hk.2 y (List.mem_of_getElem? hy))) ?_|refine bw (cj (by simp at h hq;omega) (by have:=HL;simp at h hq;omega)) ?_|refine aZ (q+1) (Sv.aK [0,1]) ⟨by have:=(List.getElem?_eq_some_iff.1 hx).1;omega,oL hx hy (by simpa using h) he⟩ (by have:=(List.getElem?_eq_some_iff.1 hx).1;omega)|refine bq ?_|refine eG ?_|(refine cL ?_;have hl:=oK hx hy (by simpa using h);rw[CR,hl];simp;done)|(have hl:=oH hn (by simp at h;omega) he;refine cL ?_;rw[CR];simp_all;done)
theorem Wg [Wd] (l k:List (gq)) (hl:(dL jx).ok l) (hk:(dL jx).ok k):aq prog 84 [.list 5 (l.map dV),.list 5 (k.map dV)] (.bool (cx l k)):=by
 have HL:l.length<=4194304:=hl.1
 refine ak 68 [] func84 ?_
 repeat' (conv=>arg 2;whnf);first|apply an<;>intro h|(refine cL ?_;exact(oG (by simp at h;omega)).symm)
 have hn:l.length=k.length:=by simp at h;omega
 refine bE (α:=Nat) (fun q=>⟨[(5,.int .i64 q),(0,.list 5 (l.map dV)),(1,.list 5 (k.map dV))],[]⟩) (fun q=>q<=l.length/\l.take q=k.take q) (fun q=>l.length-q) 0 ⟨Nat.zero_le _,rfl⟩ (Sv.aK []) ?_
 rintro q ⟨hq,he⟩
 repeat' (conv=>arg 2;whnf);first|apply an<;>intro h|refine wX hx ?_|refine wX hy ?_|refine cK (l:=l) (by simp at h;omega) (fun x hx=>?_)|refine cK (l:=k) (by simp at h;omega) (fun y hy=>?_)|refine okF (Jr x.batch y.batch (hl.2 x (List.mem_of_getElem? hx)).2.2.1 (hk.2 y (List.mem_of_getElem? hy)).2.2.1) ?_|refine bw (cj (by simp at h hq;omega) (by have:=HL;simp at h hq;omega)) ?_|refine aZ (q+1) (Sv.aK []) ⟨by have:=(List.getElem?_eq_some_iff.1 hx).1;omega,oL hx hy (by rw[IV];simp_all) he⟩ (by have:=(List.getElem?_eq_some_iff.1 hx).1;omega)|refine bq ?_|refine eG ?_|(refine cL ?_;have hl:=oK hx hy (by rw[IV];simp_all);exact hl.symm;done)|(have hl:=oH hn (by simp at h;omega) he;refine cL ?_;exact hl.symm;done)
theorem Y3 [Wd] (a b:jX) (ha:jY.ok a) (hb:jY.ok b):aq prog 85 [.agg (jv a),.agg (jv b)] (.bool (cx a b)):=by
 have la:a.record.length<=4194304:=ha.2.2.1
 have lb:b.record.length<=4194304:=hb.2.2.1
 refine ak 104 [] func85 ?_
 repeat' (conv=>arg 2;whnf);first|apply an<;>intro h|refine j8 a.record rfl ?_|refine j8 b.record rfl ?_|refine aT (by omega) ?_|refine okF (J0 a.cert b.cert ha.2.2.2.2.2.2.2 hb.2.2.2.2.2.2.2) ?_|(refine cL ?_;rw[zn];simp_all [<-yQ];done)|(refine cL ?_;rw[zn,oG (l:=a.headers) (k:=b.headers) (by simp at h;omega)];simp;done)|(refine cL ?_;rw[zn,oG (l:=a.path) (k:=b.path) (by simp at h;omega)];simp;done)
 have HL:a.headers.length<=4194304:=ha.2.2.2.1.1
 have hl:=ha.2.2.2.1
 have hk:=hb.2.2.2.1
 have hn:a.headers.length=b.headers.length:=by
  have e:(a.headers.length:Int)=b.headers.length:=by simp_all
  omega
 refine bE (α:=Nat) (fun q=>⟨[(5,.int .i64 q),(2,.ptr 0 0),(3,.ptr 1 0)],[.cells 55 (jv a),.cells 55 (jv b)]⟩) (fun q=>q<=a.headers.length/\a.headers.take q=b.headers.take q) (fun q=>a.headers.length-q) 0 ⟨Nat.zero_le _,rfl⟩ (Sv.aK [0,1]) ?_
 rintro q ⟨hq,he⟩
 repeat' (conv=>arg 2;whnf);first|apply an<;>intro h|refine cK (l:=a.headers) (by simp at h;omega) (fun x hx=>?_)|refine cK (l:=b.headers) (by simp at h;omega) (fun y hy=>?_)|refine bw (cj (by simp at h hq;omega) (by have:=HL;simp at h hq;omega)) ?_|refine aZ (q+1) (Sv.aK [0,1]) ⟨by have:=(List.getElem?_eq_some_iff.1 hx).1;omega,oL hx hy (by rw[<-FF];rw[Bool.true_and] at h;first|exact(Bool.not_eq_true' _).mp h|exact(Bool.not_eq_false' _).mp h) he⟩ (by have:=(List.getElem?_eq_some_iff.1 hx).1;omega)|refine bq ?_|refine eG ?_|(refine cL ?_;have hl:=oK hx hy (by rw[<-FF];rw[Bool.true_and] at h;first|exact(Bool.not_eq_true' _).mp h|exact(Bool.not_eq_false' _).mp h);rw[zn,hl];simp;done)
 have dH:=oH hn (by simp at h;omega) he
 clear hq he h
 have HL:a.path.length<=4194304:=ha.2.2.2.2.2.2.1.1
 have hl:=ha.2.2.2.2.2.2.1
 have hk:=hb.2.2.2.2.2.2.1
 have hn:a.path.length=b.path.length:=by
  have e:(a.path.length:Int)=b.path.length:=by simp_all
  omega
 refine bE (α:=Nat) (fun q=>⟨[(6,.int .i64 q),(2,.ptr 0 0),(3,.ptr 1 0)],[.cells 55 (jv a),.cells 55 (jv b)]⟩) (fun q=>q<=a.path.length/\a.path.take q=b.path.take q) (fun q=>a.path.length-q) 0 ⟨Nat.zero_le _,rfl⟩ (Sv.aK [0,1]) ?_
 rintro q ⟨hq,he⟩
 repeat' (conv=>arg 2;whnf);first|apply an<;>intro h|refine cK (l:=a.path) (by simp at h;omega) (fun x hx=>?_)|refine cK (l:=b.path) (by simp at h;omega) (fun y hy=>?_)|refine bw (cj (by simp at h hq;omega) (by have:=HL;simp at h hq;omega)) ?_|refine aZ (q+1) (Sv.aK [0,1]) ⟨by have:=(List.getElem?_eq_some_iff.1 hx).1;omega,oL hx hy (by rw[<-DY];simpa using h) he⟩ (by have:=(List.getElem?_eq_some_iff.1 hx).1;omega)|refine bq ?_|refine eG ?_|(refine cL ?_;have hl:=oK hx hy (by rw[<-DY];simpa using h);rw[zn,hl];simp;done)|(have hl:=oH hn (by simp at h;omega) he;refine cL ?_;rw[zn];simp_all [<-yQ];done)
theorem Rp [Wd] (a b:aD) (ha:bh.ok a) (hb:bh.ok b):aq prog 52 [.agg (aC a),.agg (aC b)] (.bool (cx a b)):=by
 have la:a.state.length<=4194304:=ha.2.2.2.2.2.2.2.2.2.2.2.2.1
 have lb:b.state.length<=4194304:=hb.2.2.2.2.2.2.2.2.2.2.2.2.1
 refine ak 148 [] func52 ?_
 repeat' (conv=>arg 2;whnf);first|apply an<;>intro h|refine j8 a.state rfl ?_|refine j8 b.state rfl ?_|refine aT (by omega) ?_|refine okF (Jr a.batch b.batch ha.2.2.2.2.2.2.2.2.1 hb.2.2.2.2.2.2.2.2.1) ?_|refine okF (J0 a.cert b.cert ha.2.2.2.2.2.2.2.2.2.1 hb.2.2.2.2.2.2.2.2.2.1) ?_|refine okF (Wg a.entries b.entries ha.2.2.2.2.2.2.2.2.2.2.2.1 hb.2.2.2.2.2.2.2.2.2.2.2.1) ?_|refine okF (Y3 a.proof b.proof ha.2.2.2.2.2.2.2.2.2.2.2.2.2.2.2.1 hb.2.2.2.2.2.2.2.2.2.2.2.2.2.2.2.1) ?_|(refine cL ?_;rw[By];simp_all [<-yQ];done)|(refine cL ?_;rw[By,oG (l:=a.changes) (k:=b.changes) (by simp at h;omega)];simp;done)|(refine cL ?_;rw[By];cases tZ:(a.sign.key==b.sign.key)<;>simp_all;done)
 have HL:a.changes.length<=4194304:=ha.2.2.2.2.2.2.2.2.2.2.1.1
 have hl:=ha.2.2.2.2.2.2.2.2.2.2.1
 have hk:=hb.2.2.2.2.2.2.2.2.2.2.1
 have hn:a.changes.length=b.changes.length:=by
  have e:(a.changes.length:Int)=b.changes.length:=by simp_all
  omega
 refine bE (α:=Nat) (fun q=>⟨[(5,.int .i64 q),(2,.ptr 0 0),(3,.ptr 1 0)],[.cells 59 (aC a),.cells 59 (aC b)]⟩) (fun q=>q<=a.changes.length/\a.changes.take q=b.changes.take q) (fun q=>a.changes.length-q) 0 ⟨Nat.zero_le _,rfl⟩ (Sv.aK [0,1]) ?_
 rintro q ⟨hq,he⟩
 repeat' (conv=>arg 2;whnf);first|apply an<;>intro h|refine cK (l:=a.changes) (by simp at h;omega) (fun x hx=>?_)|refine cK (l:=b.changes) (by simp at h;omega) (fun y hy=>?_)|refine okF (Xl x y (hl.2 x (List.mem_of_getElem? hx)) (hk.2 y (List.mem_of_getElem? hy))) ?_|refine bw (cj (by simp at h hq;omega) (by have:=HL;simp at h hq;omega)) ?_|refine aZ (q+1) (Sv.aK [0,1]) ⟨by have:=(List.getElem?_eq_some_iff.1 hx).1;omega,oL hx hy (by simpa using h) he⟩ (by have:=(List.getElem?_eq_some_iff.1 hx).1;omega)|refine bq ?_|refine eG ?_|(refine cL ?_;have hl:=oK hx hy (by simpa using h);rw[By,hl];simp;done)|(have hl:=oH hn (by simp at h;omega) he;refine cL ?_;rw[By];simp_all [<-yQ];done)
theorem Kq [Wd] (a b:bK) (ha:gh.ok a) (hb:gh.ok b):aq prog 21 [.agg (cr a),.agg (cr b)] (.bool (cx a b)):=by
 have la:a.bytes.length<=4194304:=ha.2.2.2.2.1
 have lb:b.bytes.length<=4194304:=hb.2.2.2.2.1
 refine ak 54 [] func21 ?_
 repeat' (conv=>arg 2;whnf);first|apply an<;>intro h|refine j8 a.bytes rfl ?_|refine j8 b.bytes rfl ?_|refine aT (by omega) ?_|refine okF (RX a.op b.op ha.2.2.2.1 hb.2.2.2.1) ?_|refine okF (Rp a.msg b.msg ha.2.2.2.2.2.1 hb.2.2.2.2.2.1) ?_|(refine cL ?_;rw[Qp];simp_all [<-yQ];done)
theorem Dr.lt [Old] {I:Nat->Prop} {w:World} {v:Value} {d:D} (h:Dr I w v d):Dr (fun b=>I b/\b<w.heap.size) w v d:=by
 induction h with
 |bool b=>exact .bool b
 |int k n=>exact .int k n
 |str s=>exact .str s
 |nils=>exact .nils
 |ff=>exact .ff
 |ay=>exact .ay
 |kL=>exact .kL
 |list A cap n l xs U dH hl hm fI hlen hA h1 hU ih=>
  exact .list A cap n l xs U dH hl hm fI hlen (fun h0=>by
   obtain⟨b,off,e,k1,k2,k3⟩:=hA h0
   exact⟨b,off,e,k1,⟨k2,k1⟩,k3⟩) h1 ih
 |own A cap n l xs U dH hl hm fI hlen hA h1 hU ih=>
  exact .own A cap n l xs U dH hl hm fI hlen (fun h0=>by
   obtain⟨b,off,e,k1,k2,k3⟩:=hA h0
   exact⟨b,off,e,k1,⟨k2,k1⟩,k3⟩) h1 ih
 |ref b off cs U hI hb hc h1 hU ih=>exact .ref b off cs U ⟨hI,hb⟩ hb hc h1 ih
 |agg vs ds hl h1 h ih=>exact .agg vs ds hl h1 ih
 |aj vs ds hl h ih=>exact .aj vs ds hl ih
 |fn f n vs ds hl h ih=>exact .fn f n vs ds hl ih
theorem dQ.lt [Old] {I:Nat->Prop} {w:World} {vs:List Value} {ds:List D} (h:dQ I w vs ds):dQ (fun b=>I b/\b<w.heap.size) w vs ds:=
 ⟨h.1,fun i v d h1 h2=>(h.2 i v d h1 h2).lt⟩
theorem aq.calls [Wd] [Ae] {P:Program} {f:FuncId} {ar:List D} {r:D} (hF:aq P f ar r) {I:Nat->Prop} {w:World} {vs:List Value} (hd:dQ I w vs ar) (hW:Wd.W (fun b=>I b/\b<w.heap.size) w):
 Calls P f vs.toArray w fun e w'=>∃v I',e=.returned v/\B w w'/\Vr I' [] w' v r/\(∀b,I' b->(I b/\b<w.heap.size)\/w.heap.size<=b)/\∀b,I' b->b<w'.heap.size:=by
 have Ho:=hd.lt
 have hD:Den (fun b=>I b/\b<w.heap.size) [] w []:=⟨rfl,fun b h=>h.2,fun o ao p h=>by simp at h,fun o ao p b h=>by simp at h,fun o o' ao cA p p' b h=>by simp at h⟩
 have hn:∀b,¬dF [] [] b:=fun b ⟨o,ao,p,h,_⟩=>by simp at h
 refine(hF.2 w _ [] vs hW hD ⟨Ho.1,fun i v d h1 h2=>.rd (Ho.2 i v d h1 h2)⟩).mono ?_
 rintro e w' (⟨v,I',g',r',h',rfl,⟨rfl,rfl⟩,S2,hv,hx,i1,i2,ow,gk⟩|⟨ch,_,hp,_⟩)
 case inr=>exact absurd hp (Ae.np ch)
 have hg:g'=[]:=List.eq_nil_of_length_eq_zero S2.len
 subst hg
 refine⟨v,I',rfl,hx.Ld (fun b _ ho=>hn b ho),hv,fun b hb=>?_,S2.aG⟩
 rcases i2 b hb with k|k|k
 ·exact .inl k
 ·exact absurd k (hn b)
 ·exact .inr k
theorem aq.Xe [Wd] [Ae] {P:Program} {f:FuncId} {ar:List D} {n:Bool} (hF:aq P f ar (.bool n)) {I:Nat->Prop} {w:World} {vs:List Value} (hd:dQ I w vs ar) (hW:Wd.W (fun b=>I b/\b<w.heap.size) w):
 Calls P f vs.toArray w fun e w'=>e=.returned (.bool n)/\B w w':=
 (hF.calls hd hW).mono (by
   rintro e w' ⟨v,I',rfl,hb,hv,_⟩
   exact⟨by rw[hv.rm],hb⟩)
theorem Lk.arg [Old] {α:Type} {T:Ty α} {A:Dt α} (L:Lk T A) {aG:Nat->Prop} {w:World} {cs:List Value} {a:α} (h:T.rd aG w cs a):dQ aG w [.agg cs.toArray] [.agg (A.c a)]:=by
 obtain⟨h1,_,h3⟩:=L.to h
 exact .one (.agg cs _ h1.1 h3 h1.2)
section
section
variable {aG Le:Nat->Prop} {w:World} {cs ds:List Value}
end
end
section
open Go.RowKit Go.Deep
theorem tY.le {aG:Nat->Prop} {w:World} {v:Value} {a:List UInt8} (h:tY.rd aG w [v] a):a.length<=4194304:=by
 obtain⟨u,e,hb,_,h⟩:=h
 exact h
end
end Go.Proofs.YtafomdobfmmleaaGreatDoor
