/- Lemmas and contracts, part 10. -/
import Derived.Test.YtafomdobfmmleaaGreatDoorZp9
import Derived.Test.YtafomdobfmmleaaGreatDoorProg
namespace Go.Proofs.YtafomdobfmmleaaGreatDoor
set_option linter.unusedVariables false
open Go.RowKit
open Go.Proofs.Tryz
def vZ:TT:=(.node (.node (.node (.node (.node (.node (.node (.node (.node .nil 1 ⟨1,8,[.ay],.other⟩ .nil) 2 ⟨1,8,[.int .i64 0],.int .i64⟩ .nil) 3 ⟨1,8,[.int .i64 0],.int .i64⟩ (.node (.node .nil 4 ⟨1,1,[.bool false],.bool⟩ .nil) 5 ⟨1,1,[.int .u8 0],.int .u8⟩ .nil)) 6 ⟨1,1,[.int .u8 0],.int .u8⟩ (.node (.node (.node .nil 7 ⟨4,24,[.int .i64 0,.int .i64 0,.bool false,.int .u8 0],.struct [(0,2),(1,3),(2,4),(3,6)]⟩ .nil) 8 ⟨4,24,[.int .i64 0,.int .i64 0,.bool false,.int .u8 0],.struct [(0,2),(1,3),(2,4),(3,6)]⟩ .nil) 9 ⟨1,16,[.str []],.str⟩ (.node .nil 10 ⟨1,16,[.str []],.str⟩ .nil))) 11 ⟨1,16,[.str []],.str⟩ (.node (.node (.node (.node .nil 12 ⟨1,8,[.int .u64 0],.int .u64⟩ .nil) 15 ⟨1,8,[.ff],.ptr⟩ .nil) 16 ⟨1,8,[.ff],.ptr⟩ (.node .nil 17 ⟨1,8,[.ff],.ptr⟩ .nil)) 20 ⟨1,16,[.gj true],.iface⟩ (.node (.node (.node .nil 21 ⟨1,4,[.int .i32 0],.int .i32⟩ .nil) 22 ⟨1,2,[.int .u16 0],.int .u16⟩ .nil) 23 ⟨1,2,[.int .u16 0],.int .u16⟩ (.node .nil 24 ⟨5,40,[.int .i64 0,.int .u16 0,.int .u16 0,.int .i64 0,.str []],.struct [(0,3),(1,23),(2,23),(3,3),(4,9)]⟩ .nil)))) 25 ⟨5,40,[.int .i64 0,.int .u16 0,.int .u16 0,.int .i64 0,.str []],.struct [(0,3),(1,23),(2,23),(3,3),(4,9)]⟩ (.node (.node (.node (.node (.node .nil 26 ⟨1,24,[.nils],.slice 5⟩ .nil) 27 ⟨1,8,[.ay],.other⟩ .nil) 28 ⟨1,8,[.int .i64 0],.int .i64⟩ (.node (.node .nil 30 ⟨1,8,[.ay],.other⟩ .nil) 32 ⟨1,8,[.ay],.other⟩ .nil)) 34 ⟨1,8,[.ay],.other⟩ (.node (.node (.node .nil 35 ⟨1,8,[.ay],.other⟩ .nil) 36 ⟨1,8,[.ay],.other⟩ .nil) 37 ⟨1,8,[.ay],.other⟩ (.node .nil 38 ⟨1,24,[.nils],.slice 51⟩ .nil))) 39 ⟨5,72,[.int .i64 0,.str [],.str [],.int .i64 0,.nils],.struct [(0,3),(1,9),(2,9),(3,2),(4,38)]⟩ (.node (.node (.node (.node .nil 40 ⟨5,72,[.int .i64 0,.str [],.str [],.int .i64 0,.nils],.struct [(0,3),(1,9),(2,9),(3,2),(4,38)]⟩ .nil) 41 ⟨1,8,[.int .i64 0],.int .i64⟩ .nil) 42 ⟨2,16,[.int .i64 0,.int .i64 0],.struct [(0,28),(1,2)]⟩ (.node .nil 43 ⟨2,16,[.int .i64 0,.int .i64 0],.struct [(0,28),(1,2)]⟩ .nil)) 44 ⟨1,24,[.nils],.slice 183⟩ (.node (.node (.node .nil 45 ⟨1,24,[.nils],.slice 183⟩ .nil) 46 ⟨1,24,[.nils],.slice 57⟩ .nil) 47 ⟨3,40,[.int .i64 0,.int .i64 0,.nils],.struct [(0,2),(1,41),(2,46)]⟩ (.node .nil 48 ⟨3,40,[.int .i64 0,.int .i64 0,.nils],.struct [(0,2),(1,41),(2,46)]⟩ .nil))))) 49 ⟨1,24,[.nils],.slice 145⟩ (.node (.node (.node (.node (.node (.node .nil 50 ⟨1,24,[.nils],.slice 159⟩ .nil) 51 ⟨1,24,[.nils],.slice 5⟩ .nil) 52 ⟨1,24,[.nils],.slice 187⟩ (.node (.node .nil 53 ⟨1,24,[.nils],.slice 41⟩ .nil) 54 ⟨10,152,[.str [],.int .i64 0,.nils,.nils,.int .i64 0,.int .i64 0,.nils,.int .i64 0,.int .i64 0,.nils],.struct [(0,9),(1,2),(2,51),(3,52),(4,3),(5,3),(6,53),(7,48)]⟩ .nil)) 55 ⟨10,152,[.str [],.int .i64 0,.nils,.nils,.int .i64 0,.int .i64 0,.nils,.int .i64 0,.int .i64 0,.nils],.struct [(0,9),(1,2),(2,51),(3,52),(4,3),(5,3),(6,53),(7,48)]⟩ (.node (.node (.node .nil 56 ⟨2,16,[.int .i64 0,.int .i64 0],.struct [(0,3),(1,41)]⟩ .nil) 57 ⟨2,16,[.int .i64 0,.int .i64 0],.struct [(0,3),(1,41)]⟩ .nil) 58 ⟨30,400,[.int .i64 0,.int .i64 0,.int .i64 0,.int .i64 0,.int .i64 0,.int .i64 0,.int .i64 0,.int .i64 0,.int .i64 0,.nils,.int .i64 0,.int .i64 0,.nils,.nils,.nils,.nils,.str [],.int .i64 0,.str [],.int .i64 0,.nils,.nils,.int .i64 0,.int .i64 0,.nils,.int .i64 0,.int .i64 0,.nils,.int .i64 0,.int .i64 0],.struct [(0,3),(1,3),(2,2),(3,2),(4,41),(5,3),(6,2),(7,43),(9,45),(10,48),(13,49),(14,50),(15,26),(16,9),(17,2),(18,55),(28,57)]⟩ (.node .nil 59 ⟨30,400,[.int .i64 0,.int .i64 0,.int .i64 0,.int .i64 0,.int .i64 0,.int .i64 0,.int .i64 0,.int .i64 0,.int .i64 0,.nils,.int .i64 0,.int .i64 0,.nils,.nils,.nils,.nils,.str [],.int .i64 0,.str [],.int .i64 0,.nils,.nils,.int .i64 0,.int .i64 0,.nils,.int .i64 0,.int .i64 0,.nils,.int .i64 0,.int .i64 0],.struct [(0,3),(1,3),(2,2),(3,2),(4,41),(5,3),(6,2),(7,43),(9,45),(10,48),(13,49),(14,50),(15,26),(16,9),(17,2),(18,55),(28,57)]⟩ .nil))) 60 ⟨40,528,[.int .i64 0,.int .i64 0,.int .i64 0,.int .i64 0,.str [],.str [],.int .i64 0,.nils,.nils,.int .i64 0,.int .i64 0,.int .i64 0,.int .i64 0,.int .i64 0,.int .i64 0,.int .i64 0,.int .i64 0,.int .i64 0,.nils,.int .i64 0,.int .i64 0,.nils,.nils,.nils,.nils,.str [],.int .i64 0,.str [],.int .i64 0,.nils,.nils,.int .i64 0,.int .i64 0,.nils,.int .i64 0,.int .i64 0,.nils,.int .i64 0,.int .i64 0,.bool false],.struct [(0,3),(1,3),(2,3),(3,40),(8,26),(9,59),(39,4)]⟩ (.node (.node (.node (.node .nil 61 ⟨40,528,[.int .i64 0,.int .i64 0,.int .i64 0,.int .i64 0,.str [],.str [],.int .i64 0,.nils,.nils,.int .i64 0,.int .i64 0,.int .i64 0,.int .i64 0,.int .i64 0,.int .i64 0,.int .i64 0,.int .i64 0,.int .i64 0,.nils,.int .i64 0,.int .i64 0,.nils,.nils,.nils,.nils,.str [],.int .i64 0,.str [],.int .i64 0,.nils,.nils,.int .i64 0,.int .i64 0,.nils,.int .i64 0,.int .i64 0,.nils,.int .i64 0,.int .i64 0,.bool false],.struct [(0,3),(1,3),(2,3),(3,40),(8,26),(9,59),(39,4)]⟩ .nil) 62 ⟨1,8,[.ay],.other⟩ .nil) 64 ⟨1,8,[.ay],.other⟩ (.node .nil 65 ⟨1,8,[.ay],.other⟩ .nil)) 66 ⟨1,8,[.ay],.other⟩ (.node (.node (.node .nil 67 ⟨1,24,[.nils],.slice 61⟩ .nil) 68 ⟨6,64,[.int .i64 0,.int .u16 0,.int .u16 0,.int .i64 0,.str [],.nils],.struct [(0,25),(5,67)]⟩ .nil) 69 ⟨6,64,[.int .i64 0,.int .u16 0,.int .u16 0,.int .i64 0,.str [],.nils],.struct [(0,25),(5,67)]⟩ (.node .nil 71 ⟨1,8,[.ay],.other⟩ .nil)))) 72 ⟨1,8,[.ay],.other⟩ (.node (.node (.node (.node (.node .nil 73 ⟨1,8,[.ay],.other⟩ .nil) 74 ⟨1,8,[.ay],.other⟩ .nil) 75 ⟨1,8,[.ay],.other⟩ (.node .nil 76 ⟨1,8,[.ay],.other⟩ .nil)) 77 ⟨1,8,[.ay],.other⟩ (.node (.node (.node .nil 78 ⟨1,24,[.nils],.slice 9⟩ .nil) 79 ⟨1,8,[.ay],.other⟩ .nil) 80 ⟨1,8,[.ff],.ptr⟩ (.node .nil 81 ⟨1,8,[.ay],.other⟩ .nil))) 82 ⟨1,24,[.nils],.struct [(0,78)]⟩ (.node (.node (.node (.node .nil 83 ⟨1,24,[.nils],.struct [(0,78)]⟩ .nil) 84 ⟨1,8,[.ay],.other⟩ .nil) 85 ⟨1,8,[.ay],.other⟩ (.node .nil 86 ⟨1,8,[.ay],.other⟩ .nil)) 87 ⟨1,8,[.ay],.other⟩ (.node (.node (.node .nil 89 ⟨1,8,[.ay],.other⟩ .nil) 90 ⟨1,8,[.ay],.other⟩ .nil) 91 ⟨1,8,[.int .u64 0],.int .u64⟩ (.node .nil 93 ⟨1,8,[.ay],.other⟩ .nil)))))) 95 ⟨1,8,[.ay],.other⟩ (.node (.node (.node (.node (.node (.node (.node .nil 96 ⟨1,8,[.ay],.other⟩ .nil) 98 ⟨1,8,[.ay],.other⟩ .nil) 100 ⟨1,8,[.ay],.other⟩ (.node (.node .nil 101 ⟨1,8,[.ay],.other⟩ .nil) 102 ⟨1,8,[.ay],.other⟩ .nil)) 104 ⟨1,8,[.ay],.other⟩ (.node (.node (.node .nil 106 ⟨1,8,[.ay],.other⟩ .nil) 107 ⟨1,8,[.ay],.other⟩ .nil) 108 ⟨1,8,[.ay],.other⟩ (.node .nil 110 ⟨1,8,[.ay],.other⟩ .nil))) 111 ⟨1,8,[.ay],.other⟩ (.node (.node (.node (.node .nil 112 ⟨1,8,[.ff],.ptr⟩ .nil) 113 ⟨2,32,[.ff,.nils],.struct [(0,112),(1,26)]⟩ .nil) 114 ⟨2,32,[.ff,.nils],.struct [(0,112),(1,26)]⟩ (.node .nil 115 ⟨1,16,[.gj true],.iface⟩ .nil)) 116 ⟨1,16,[.gj true],.iface⟩ (.node (.node (.node .nil 118 ⟨1,8,[.ay],.other⟩ .nil) 119 ⟨1,8,[.ay],.other⟩ .nil) 120 ⟨1,8,[.ay],.other⟩ (.node .nil 121 ⟨0,0,[],.struct []⟩ .nil)))) 122 ⟨0,0,[],.struct []⟩ (.node (.node (.node (.node (.node .nil 124 ⟨1,8,[.ay],.other⟩ .nil) 125 ⟨1,8,[.int .u64 0],.int .u64⟩ .nil) 127 ⟨1,8,[.ay],.other⟩ (.node .nil 128 ⟨1,8,[.ay],.other⟩ .nil)) 129 ⟨1,8,[.ay],.other⟩ (.node (.node (.node .nil 130 ⟨1,8,[.ay],.other⟩ .nil) 131 ⟨1,8,[.ay],.other⟩ .nil) 132 ⟨1,8,[.ay],.other⟩ (.node .nil 133 ⟨1,8,[.ay],.other⟩ .nil))) 134 ⟨1,8,[.ay],.other⟩ (.node (.node (.node (.node .nil 135 ⟨1,8,[.ay],.other⟩ .nil) 136 ⟨1,8,[.ff],.ptr⟩ .nil) 137 ⟨1,8,[.ay],.other⟩ (.node .nil 138 ⟨1,8,[.ay],.other⟩ .nil)) 139 ⟨1,8,[.ay],.other⟩ (.node (.node (.node .nil 140 ⟨1,8,[.ay],.other⟩ .nil) 142 ⟨1,8,[.ay],.other⟩ .nil) 143 ⟨1,24,[.nils],.slice 190⟩ (.node .nil 144 ⟨8,96,[.int .i64 0,.int .i64 0,.int .i64 0,.int .i64 0,.nils,.nils,.int .i64 0,.int .i64 0],.struct [(0,2),(1,3),(2,48),(5,143),(6,57)]⟩ .nil))))) 145 ⟨8,96,[.int .i64 0,.int .i64 0,.int .i64 0,.int .i64 0,.nils,.nils,.int .i64 0,.int .i64 0],.struct [(0,2),(1,3),(2,48),(5,143),(6,57)]⟩ (.node (.node (.node (.node (.node (.node .nil 146 ⟨1,8,[.ay],.other⟩ .nil) 147 ⟨1,8,[.ay],.other⟩ .nil) 148 ⟨1,8,[.ay],.other⟩ (.node (.node .nil 149 ⟨1,8,[.ay],.other⟩ .nil) 150 ⟨1,8,[.ay],.other⟩ .nil)) 151 ⟨1,8,[.ay],.other⟩ (.node (.node (.node .nil 152 ⟨1,8,[.ay],.other⟩ .nil) 153 ⟨13,112,[.int .i64 0,.int .i64 0,.int .i64 0,.int .i64 0,.int .i64 0,.int .i64 0,.int .i64 0,.int .i64 0,.int .i64 0,.int .i64 0,.str [],.int .i64 0,.int .i64 0],.struct [(0,3),(1,3),(2,3),(3,2),(4,2),(5,2),(6,2),(7,41),(8,43),(10,9),(11,57)]⟩ .nil) 154 ⟨13,112,[.int .i64 0,.int .i64 0,.int .i64 0,.int .i64 0,.int .i64 0,.int .i64 0,.int .i64 0,.int .i64 0,.int .i64 0,.int .i64 0,.str [],.int .i64 0,.int .i64 0],.struct [(0,3),(1,3),(2,3),(3,2),(4,2),(5,2),(6,2),(7,41),(8,43),(10,9),(11,57)]⟩ (.node .nil 155 ⟨1,8,[.ay],.other⟩ .nil))) 156 ⟨1,8,[.ay],.other⟩ (.node (.node (.node (.node .nil 157 ⟨1,8,[.ay],.other⟩ .nil) 158 ⟨5,56,[.int .i64 0,.int .i64 0,.nils,.int .i64 0,.int .i64 0],.struct [(0,2),(1,2),(2,45),(3,57)]⟩ .nil) 159 ⟨5,56,[.int .i64 0,.int .i64 0,.nils,.int .i64 0,.int .i64 0],.struct [(0,2),(1,2),(2,45),(3,57)]⟩ (.node .nil 160 ⟨1,8,[.ay],.other⟩ .nil)) 161 ⟨1,8,[.ff],.ptr⟩ (.node (.node (.node .nil 163 ⟨1,8,[.ay],.other⟩ .nil) 164 ⟨1,8,[.ay],.other⟩ .nil) 165 ⟨1,8,[.ay],.other⟩ (.node .nil 166 ⟨1,8,[.ay],.other⟩ .nil)))) 168 ⟨1,8,[.ay],.other⟩ (.node (.node (.node (.node (.node .nil 169 ⟨1,8,[.ay],.other⟩ .nil) 170 ⟨1,8,[.ay],.other⟩ .nil) 171 ⟨1,8,[.ff],.ptr⟩ (.node .nil 172 ⟨1,8,[.ay],.other⟩ .nil)) 173 ⟨1,8,[.ay],.other⟩ (.node (.node (.node .nil 174 ⟨1,8,[.ay],.other⟩ .nil) 175 ⟨2,32,[.nils,.int .i64 0],.struct [(0,26),(1,28)]⟩ .nil) 176 ⟨2,32,[.nils,.int .i64 0],.struct [(0,26),(1,28)]⟩ (.node .nil 177 ⟨1,8,[.ay],.other⟩ .nil))) 178 ⟨1,8,[.ay],.other⟩ (.node (.node (.node (.node .nil 179 ⟨1,8,[.ay],.other⟩ .nil) 180 ⟨7,88,[.int .i64 0,.int .i64 0,.int .i64 0,.str [],.str [],.int .i64 0,.nils],.struct [(0,3),(1,2),(2,40)]⟩ .nil) 181 ⟨7,88,[.int .i64 0,.int .i64 0,.int .i64 0,.str [],.str [],.int .i64 0,.nils],.struct [(0,3),(1,2),(2,40)]⟩ (.node .nil 182 ⟨9,104,[.int .i64 0,.int .i64 0,.int .i64 0,.str [],.str [],.int .i64 0,.nils,.int .i64 0,.int .i64 0],.struct [(0,181),(7,57)]⟩ .nil)) 183 ⟨9,104,[.int .i64 0,.int .i64 0,.int .i64 0,.str [],.str [],.int .i64 0,.nils,.int .i64 0,.int .i64 0],.struct [(0,181),(7,57)]⟩ (.node (.node (.node .nil 184 ⟨1,8,[.ay],.other⟩ .nil) 185 ⟨1,8,[.ay],.other⟩ .nil) 186 ⟨5,40,[.int .i64 0,.int .i64 0,.int .i64 0,.int .i64 0,.int .i64 0],.struct [(0,2),(1,41),(2,41),(3,41),(4,41)]⟩ (.node .nil 187 ⟨5,40,[.int .i64 0,.int .i64 0,.int .i64 0,.int .i64 0,.int .i64 0],.struct [(0,2),(1,41),(2,41),(3,41),(4,41)]⟩ .nil))))))) 188 ⟨1,8,[.ay],.other⟩ (.node (.node (.node (.node (.node (.node (.node (.node .nil 189 ⟨7,88,[.int .i64 0,.int .i64 0,.int .i64 0,.int .i64 0,.int .i64 0,.nils,.nils],.struct [(0,2),(1,2),(2,41),(3,57),(5,46),(6,45)]⟩ .nil) 190 ⟨7,88,[.int .i64 0,.int .i64 0,.int .i64 0,.int .i64 0,.int .i64 0,.nils,.nils],.struct [(0,2),(1,2),(2,41),(3,57),(5,46),(6,45)]⟩ .nil) 191 ⟨1,8,[.ay],.other⟩ (.node (.node .nil 192 ⟨1,8,[.ay],.other⟩ .nil) 193 ⟨1,8,[.ay],.other⟩ .nil)) 194 ⟨1,8,[.ay],.other⟩ (.node (.node (.node .nil 195 ⟨1,8,[.ay],.other⟩ .nil) 196 ⟨1,8,[.ff],.other⟩ .nil) 197 ⟨1,8,[.ay],.other⟩ (.node .nil 198 ⟨1,8,[.ay],.other⟩ .nil))) 199 ⟨1,8,[.ay],.other⟩ (.node (.node (.node (.node .nil 200 ⟨1,24,[.nils],.slice 3⟩ .nil) 202 ⟨1,8,[.ay],.other⟩ .nil) 203 ⟨1,8,[.ay],.other⟩ (.node .nil 204 ⟨1,8,[.int .i64 0],.int .i64⟩ .nil)) 206 ⟨1,8,[.ay],.other⟩ (.node (.node (.node .nil 207 ⟨1,8,[.ff],.ptr⟩ .nil) 208 ⟨1,8,[.ay],.other⟩ .nil) 209 ⟨1,8,[.ay],.other⟩ (.node .nil 211 ⟨1,8,[.ay],.other⟩ .nil)))) 212 ⟨1,8,[.ay],.other⟩ (.node (.node (.node (.node (.node .nil 213 ⟨1,8,[.ay],.other⟩ .nil) 214 ⟨1,8,[.ay],.other⟩ .nil) 215 ⟨1,8,[.ay],.other⟩ (.node (.node .nil 216 ⟨1,8,[.ff],.ptr⟩ .nil) 217 ⟨1,24,[.nils],.struct [(0,26)]⟩ .nil)) 218 ⟨1,24,[.nils],.struct [(0,26)]⟩ (.node (.node (.node .nil 219 ⟨1,24,[.nils],.struct [(0,218)]⟩ .nil) 220 ⟨1,24,[.nils],.struct [(0,218)]⟩ .nil) 221 ⟨1,8,[.ay],.other⟩ (.node .nil 224 ⟨1,8,[.ay],.other⟩ .nil))) 225 ⟨1,8,[.ay],.other⟩ (.node (.node (.node (.node .nil 226 ⟨1,8,[.ay],.other⟩ .nil) 227 ⟨1,8,[.ay],.other⟩ .nil) 228 ⟨1,8,[.ay],.other⟩ (.node .nil 229 ⟨1,8,[.ay],.other⟩ .nil)) 230 ⟨1,8,[.ay],.other⟩ (.node (.node (.node .nil 231 ⟨1,8,[.ay],.other⟩ .nil) 232 ⟨1,8,[.ay],.other⟩ .nil) 233 ⟨1,8,[.ay],.other⟩ (.node .nil 234 ⟨3,40,[.nils,.int .i64 0,.bool false],.struct [(0,26),(1,28),(2,4)]⟩ .nil))))) 235 ⟨3,40,[.nils,.int .i64 0,.bool false],.struct [(0,26),(1,28),(2,4)]⟩ (.node (.node (.node (.node (.node (.node .nil 236 ⟨1,8,[.ay],.other⟩ .nil) 237 ⟨1,8,[.ay],.other⟩ .nil) 238 ⟨1,8,[.ff],.struct [(0,171)]⟩ (.node (.node .nil 239 ⟨1,8,[.ff],.struct [(0,171)]⟩ .nil) 240 ⟨1,8,[.ay],.other⟩ .nil)) 241 ⟨1,8,[.ay],.other⟩ (.node (.node (.node .nil 242 ⟨1,8,[.ay],.other⟩ .nil) 243 ⟨1,8,[.ay],.other⟩ .nil) 244 ⟨1,8,[.ay],.other⟩ (.node .nil 245 ⟨1,8,[.ay],.other⟩ .nil))) 246 ⟨1,8,[.ay],.other⟩ (.node (.node (.node (.node .nil 247 ⟨1,8,[.ay],.other⟩ .nil) 248 ⟨1,8,[.ay],.other⟩ .nil) 249 ⟨1,8,[.ay],.other⟩ (.node .nil 250 ⟨1,8,[.ay],.other⟩ .nil)) 251 ⟨1,8,[.ay],.other⟩ (.node (.node (.node .nil 253 ⟨1,8,[.ay],.other⟩ .nil) 254 ⟨1,8,[.ay],.other⟩ .nil) 256 ⟨1,8,[.ay],.other⟩ (.node .nil 258 ⟨1,8,[.ay],.other⟩ .nil)))) 259 ⟨1,8,[.ay],.other⟩ (.node (.node (.node (.node (.node .nil 262 ⟨1,8,[.ay],.other⟩ .nil) 263 ⟨1,8,[.ay],.other⟩ .nil) 264 ⟨1,8,[.ay],.other⟩ (.node .nil 265 ⟨1,8,[.ay],.other⟩ .nil)) 266 ⟨1,8,[.ay],.other⟩ (.node (.node (.node .nil 267 ⟨1,8,[.ay],.other⟩ .nil) 268 ⟨1,8,[.ay],.other⟩ .nil) 269 ⟨1,8,[.ay],.other⟩ (.node .nil 270 ⟨1,8,[.ay],.other⟩ .nil))) 271 ⟨1,8,[.ay],.other⟩ (.node (.node (.node (.node .nil 272 ⟨1,8,[.ay],.other⟩ .nil) 273 ⟨1,8,[.ay],.other⟩ .nil) 274 ⟨1,24,[.nils],.slice 2⟩ (.node .nil 275 ⟨1,8,[.ay],.other⟩ .nil)) 276 ⟨1,8,[.ay],.other⟩ (.node (.node (.node .nil 277 ⟨1,8,[.ay],.other⟩ .nil) 278 ⟨1,8,[.ay],.other⟩ .nil) 279 ⟨1,8,[.ay],.other⟩ (.node .nil 280 ⟨1,8,[.ff],.ptr⟩ .nil)))))) 281 ⟨1,8,[.ay],.other⟩ (.node (.node (.node (.node (.node (.node (.node .nil 282 ⟨1,8,[.ay],.other⟩ .nil) 283 ⟨1,8,[.ay],.other⟩ .nil) 284 ⟨1,8,[.ay],.other⟩ (.node (.node .nil 285 ⟨1,8,[.ay],.other⟩ .nil) 286 ⟨1,8,[.ay],.other⟩ .nil)) 287 ⟨1,8,[.ay],.other⟩ (.node (.node (.node .nil 288 ⟨1,8,[.ay],.other⟩ .nil) 289 ⟨1,8,[.ay],.other⟩ .nil) 290 ⟨1,8,[.ay],.other⟩ (.node .nil 291 ⟨1,8,[.ay],.other⟩ .nil))) 292 ⟨1,8,[.ay],.other⟩ (.node (.node (.node (.node .nil 293 ⟨1,8,[.ay],.other⟩ .nil) 294 ⟨1,8,[.ay],.other⟩ .nil) 295 ⟨1,8,[.ay],.other⟩ (.node .nil 296 ⟨1,8,[.ay],.other⟩ .nil)) 297 ⟨1,8,[.ay],.other⟩ (.node (.node (.node .nil 298 ⟨1,8,[.ay],.other⟩ .nil) 300 ⟨1,8,[.ay],.other⟩ .nil) 301 ⟨1,8,[.ay],.other⟩ (.node .nil 302 ⟨1,8,[.ay],.other⟩ .nil)))) 303 ⟨1,8,[.ay],.other⟩ (.node (.node (.node (.node (.node .nil 304 ⟨1,4,[.int .u32 0],.int .u32⟩ .nil) 306 ⟨1,8,[.ay],.other⟩ .nil) 307 ⟨1,8,[.ay],.other⟩ (.node .nil 310 ⟨1,8,[.ay],.other⟩ .nil)) 312 ⟨2,2,[.int .u8 0,.int .u8 0],.struct [(0,5),(1,5)]⟩ (.node (.node (.node .nil 313 ⟨2,2,[.int .u8 0,.int .u8 0],.struct [(0,5),(1,5)]⟩ .nil) 315 ⟨1,8,[.ff],.ptr⟩ .nil) 316 ⟨1,16,[.str []],.struct [(0,9)]⟩ (.node .nil 317 ⟨1,16,[.str []],.struct [(0,9)]⟩ .nil))) 318 ⟨1,8,[.ay],.other⟩ (.node (.node (.node (.node .nil 319 ⟨1,8,[.int .i64 0],.struct [(0,28)]⟩ .nil) 320 ⟨1,8,[.int .i64 0],.struct [(0,28)]⟩ .nil) 321 ⟨1,8,[.ff],.ptr⟩ (.node .nil 322 ⟨1,8,[.ay],.other⟩ .nil)) 323 ⟨1,8,[.ay],.other⟩ (.node (.node (.node .nil 324 ⟨1,8,[.ay],.other⟩ .nil) 325 ⟨1,8,[.ay],.other⟩ .nil) 326 ⟨1,8,[.ay],.other⟩ (.node .nil 327 ⟨1,8,[.ay],.other⟩ .nil))))) 328 ⟨1,8,[.ay],.other⟩ (.node (.node (.node (.node (.node (.node .nil 329 ⟨1,8,[.ay],.other⟩ .nil) 330 ⟨1,8,[.ay],.other⟩ .nil) 331 ⟨1,8,[.ay],.other⟩ (.node (.node .nil 332 ⟨1,8,[.ay],.other⟩ .nil) 333 ⟨1,8,[.ay],.other⟩ .nil)) 334 ⟨1,8,[.ay],.other⟩ (.node (.node (.node .nil 335 ⟨1,8,[.ay],.other⟩ .nil) 336 ⟨1,8,[.ay],.other⟩ .nil) 337 ⟨1,8,[.ay],.other⟩ (.node .nil 338 ⟨1,8,[.ay],.other⟩ .nil))) 339 ⟨1,8,[.ay],.other⟩ (.node (.node (.node (.node .nil 340 ⟨1,8,[.ay],.other⟩ .nil) 341 ⟨1,8,[.ay],.other⟩ .nil) 342 ⟨1,8,[.ay],.other⟩ (.node .nil 343 ⟨1,8,[.ay],.other⟩ .nil)) 344 ⟨1,8,[.ay],.other⟩ (.node (.node (.node .nil 345 ⟨1,8,[.ay],.other⟩ .nil) 346 ⟨1,8,[.ay],.other⟩ .nil) 347 ⟨1,8,[.ay],.other⟩ (.node .nil 348 ⟨1,8,[.ay],.other⟩ .nil)))) 349 ⟨1,8,[.ay],.other⟩ (.node (.node (.node (.node (.node .nil 350 ⟨1,8,[.ay],.other⟩ .nil) 351 ⟨1,8,[.ff],.ptr⟩ .nil) 352 ⟨1,8,[.ay],.other⟩ (.node .nil 353 ⟨1,8,[.ay],.other⟩ .nil)) 354 ⟨1,8,[.ay],.other⟩ (.node (.node (.node .nil 355 ⟨1,8,[.ay],.other⟩ .nil) 356 ⟨1,24,[.nils],.slice 183⟩ .nil) 357 ⟨1,24,[.nils],.slice 28⟩ (.node .nil 358 ⟨1,8,[.ay],.other⟩ .nil))) 359 ⟨1,8,[.ay],.other⟩ (.node (.node (.node (.node .nil 360 ⟨1,8,[.ay],.other⟩ .nil) 361 ⟨1,8,[.ay],.other⟩ .nil) 364 ⟨1,8,[.ay],.other⟩ (.node .nil 365 ⟨1,8,[.ay],.other⟩ .nil)) 371 ⟨1,1,[.int .u8 0],.int .u8⟩ (.node (.node (.node .nil 372 ⟨1,1,[.int .u8 0],.int .u8⟩ .nil) 373 ⟨1,8,[.ay],.other⟩ .nil) 374 ⟨1,4,[.int .i32 0],.int .i32⟩ (.node .nil 375 ⟨1,4,[.int .i32 0],.int .i32⟩ .nil))))))))
def GU (p:Nat->qY->Bool):TT->Bool
 |.nil=>true
 |.node l t i r=>GU p l&&(p t i&&GU p r)
theorem JP {p:Nat->qY->Bool}:∀{tb:TT} {t:Nat} {i:qY},GU p tb=true->tb.look t=some i->p t i=true
 |.nil,_,_,_,h=>by simp[TT.look] at h
 |.node l t' i' r,t,i,ha,h=>by
  simp only[GU,Bool.and_eq_true] at ha
  simp only[TT.look] at h
  cases hb:Nat.beq t t' with
  |true=>
   rw[hb] at h
   injection h with h
   subst h
   cases Nat.eq_of_beq_eq_true hb
   exact ha.2.1
  |false=>
   rw[hb] at h
   cases hl:Nat.blt t t' with
   |true=>rw[hl] at h;exact JP ha.1 h
   |false=>rw[hl] at h;exact JP ha.2.2 h
def Nc:D->D->Bool
 |.bool a,.bool b=>a==b
 |.int k a,.int l b=>k==l&&a==b
 |.str [],.str []=>true
 |.nils,.nils=>true
 |.ff,.ff=>true
 |.ay,.ay=>true
 |.kL,.kL=>true
 |.gj a,.gj b=>a==b
 |_,_=>false
theorem adP {a b:D} (h:Nc a b=true):a=b:=by
 unfold Nc at h
 split at h<;>simp_all
def B5:List Value->List D->Bool
 |[],[]=>true
 |v::vs,d::ds=>(match zD v with|some e=>Nc e d|none=>false)&&B5 vs ds
 |_,_=>false
theorem P8:∀(vs:List Value) (ds:List D),B5 vs ds=true->Gv vs ds
 |[],[],_=>trivial
 |v::vs,d::ds,h=>by
  simp only[B5,Bool.and_eq_true] at h
  refine⟨?_,P8 vs ds h.2⟩
  cases hz:zD v with
  |none=>rw[hz] at h;cases h.1
  |some e=>rw[hz] at h;rw[adP h.1]
 |[],_::_,h=>by simp[B5] at h
 |_::_,[],h=>by simp[B5] at h
def Nd (P:Program) (t:Nat) (i:qY):Bool:=
 match P.info? t with
 |some inf=>inf.size==i.size&&inf.bytes==i.bytes&&(uQ P t i.kind&&(!i.kind.isRow||GP P t))&&(match inf.zero with
  |some z=>B5 z.cells.toList i.zero&&z.cells.size==i.size&&((match z with|.agg _=>true|_=>false)==i.kind.isRow)
  |none=>false)
 |none=>false
theorem adQ {P:Program} {t:Nat} {i:qY} (h:Nd P t i=true):i.ok P t:=by
 unfold Nd at h
 split at h
 ·rename_i inf hi
  simp only[Bool.and_eq_true,beq_iff_eq] at h
  obtain⟨⟨⟨h1,h2⟩,h3,h5⟩,h4⟩:=h
  split at h4
  ·rename_i z hz
   simp only[Bool.and_eq_true,beq_iff_eq] at h4
   obtain⟨⟨k1,k2⟩,k3⟩:=h4
   refine⟨⟨inf,z,hi,h1,h2,hz,P8 _ _ k1,k2,?_⟩,h3,fun hr=>by simpa[hr] using h5⟩
   rw[<-k3]
   cases z<;>simp
  ·cases h4
 ·cases h
theorem YM:vZ.ok prog:=fun t i h=>adQ (JP (p:=Nd prog) (by kernel_rfl) h)
section
set_option linter.unusedSectionVars false
variable [Wd]
noncomputable def xR (E:En) (ops l:List Oper):S->(S->T)->T:=
 List.rec (motive:=fun _=>S->(S->T)->T) (fun s k=>k s) (fun o _ ih s k=>DV E ops o s (fun s'=>ih s' k)) l
theorem Sf (E:En) (ops:List Oper):∀(l:List Oper) (s:S) (k:S->T),xR E ops l s k=Ai E ops l s k
 |[],s,k=>rfl
 |o::r,s,k=>by
  show DV E ops o s (fun s'=>xR E ops r s' k)=DV E ops o s (fun s'=>Ai E ops r s' k)
  rw[show(fun s'=>xR E ops r s' k)=fun s'=>Ai E ops r s' k from funext fun s'=>Sf E ops r s' k]
noncomputable def xA (E:En) (ops:List Oper) (hr:List AO) (md:List Nat) (pl:PT):Bool->S->(S->T)->T:=
 PT.rec (motive:=fun _=>Bool->S->(S->T)->T) (fun _ s k=>k s) (fun i al _ ih gr s k=>tO E ops hr md i al gr (fun g s'=>ih g s' k) s)
   (fun i _ _ AQ EI gr s k=>.both (tO E ops hr md i true gr (fun g s'=>AQ g s' k) s) (EI gr s k)) pl
theorem aeQ (E:En) (ops:List Oper) (hr:List AO) (md:List Nat) (pl:PT):∀(gr:Bool) (s:S) (k:S->T),xA E ops hr md pl gr s k=pV E ops hr md pl gr s k:=by
 induction pl with
 |done=>exact fun _ _ _=>rfl
 |one i al r ih=>
  intro gr s k
  show tO E ops hr md i al gr (fun g s'=>xA E ops hr md r g s' k) s=tO E ops hr md i al gr (fun g s'=>pV E ops hr md r g s' k) s
  rw[show(fun g s'=>xA E ops hr md r g s' k)=fun g s'=>pV E ops hr md r g s' k from funext fun g=>funext fun s'=>ih g s' k]
 |alt i a r AQ EI=>
  intro gr s k
  show T.both (tO E ops hr md i true gr (fun g s'=>xA E ops hr md a g s' k) s) (xA E ops hr md r gr s k)=T.both (tO E ops hr md i true gr (fun g s'=>pV E ops hr md a g s' k) s) (pV E ops hr md r gr s k)
  rw[show(fun g s'=>xA E ops hr md a g s' k)=fun g s'=>pV E ops hr md a g s' k from funext fun g=>funext fun s'=>AQ g s' k,EI]
noncomputable def xC (E:En) (m:Nat) (PL:List (Nat×mD)) (c:Code):S->(Exit->S->T)->T:=
 Code.rec (motive:=fun _=>S->(Exit->S->T)->T)
  (fun s K=>K .normal s)
  (fun id ops dr s K=>match dr with
    |false=>xR E ops.toList ops.toList s (K .normal)
    |true=>bif DW PL id then .fail 65 else xA E ops.toList s.h (yH PL id ops.toList s).md (yH PL id ops.toList s).t false s (K .normal))
  (fun _ _ a b s K=>a s fun e s'=>match e with
    |.normal=>b s' K
    |e=>K e s')
  (fun c _ _ a b s K=>match ev s c with
    |.bool v=>bT v (a s K) (b s K)
    |_=>.fail 70)
  (fun id _ c s K=>c s fun e s'=>match e with
    |.exit wJ=>bif Nat.beq wJ id then K .normal s' else K (.exit wJ) s'
    |e=>K e s')
  (fun _ c s K=>.loop m s (fun s'=>c s' .leaf) K)
  (fun _ _ _ _ _ _ _ _=>.fail 71)
  (fun id s K=>K (.exit id) s)
  (fun _ _ _ _=>.fail 71)
  (fun _ _ _=>.fail 71)
  (fun _ _ _=>.fail 71)
  (fun s K=>K .ret s)
  (fun _ _ _=>.fail 71) c
theorem Ac (E:En) (m:Nat) (PL:List (Nat×mD)):∀(c:Code) (s:S) (K:Exit->S->T),xC E m PL c s K=oP E m PL c s K
 |.skip,s,K=>rfl
 |.region id ops false,s,K=>Sf E ops.toList ops.toList s (K .normal)
 |.region id ops true,s,K=>by
  show(bif DW PL id then T.fail 65 else xA E ops.toList s.h (yH PL id ops.toList s).md (yH PL id ops.toList s).t false s (K .normal))=_
  rw[aeQ]
  rfl
 |.seq a b,s,K=>by
  show xC E m PL a s (fun e s'=>match e with
   |.normal=>xC E m PL b s' K
   |e=>K e s')=_
  rw[Ac E m PL a]
  show _=oP E m PL a s (fun e s'=>match e with
   |.normal=>oP E m PL b s' K
   |e=>K e s')
  congr 1
  funext e s'
  cases e<;>first|exact Ac E m PL b s' K|rfl
 |.cond c a b,s,K=>by
  show(match ev s c with
   |.bool v=>bT v (xC E m PL a s K) (xC E m PL b s K)
   |_=>.fail 70:T)=_
  rw[Ac E m PL a,Ac E m PL b]
  rfl
 |.block id c,s,K=>Ac E m PL c s _
 |.loop c,s,K=>by
  show T.loop m s (fun s'=>xC E m PL c s' .leaf) K=_
  rw[show(fun s'=>xC E m PL c s' .leaf)=fun s'=>oP E m PL c s' .leaf from funext fun s'=>Ac E m PL c s' .leaf]
  rfl
 |.exit id,s,K=>rfl
 |.ret,s,K=>rfl
 |.rangeFunc _ _ _ _,s,K=>rfl
 |.scope _,s,K=>rfl
 |.label _,s,K=>rfl
 |.goto _,s,K=>rfl
 |.refuse _,s,K=>rfl
end
theorem DX [Wd] (dt:Bool) {f:FuncId} {fn:Func} {c:Code} {ar:List D} {h:List AO} {cZ:D->List AO->Prop} (n:Nat) (PL:List (Nat×mD)) (hf:prog.funcs[f]?=some fn)
 (hx:(xC ⟨vZ,n,dt,0⟩ h.length PL c ⟨xy 0 ar,h⟩ .leaf).ok prog (Lf vZ fn.results.toList h cZ)) (hb:fn.body=some c:=by rfl) (hn:(Nat.beq fn.ntmps n&&(Nat.ble ar.length n&&(rj prog f&&rQ PL c)))=true:=by kernel_rfl):bC prog f ar h cZ:=by
 simp only[Bool.and_eq_true] at hn
 rw[Ac] at hx
 exact bC.aaX (E:=⟨vZ,n,dt,0⟩) hf hb (Nat.eq_of_beq_eq_true hn.1) YM (by kernel_rfl) hn.2.2.1 rfl (Nat.le_of_ble_eq_true hn.2.1) hn.2.2.2 hx
theorem iV [Wd] {f:FuncId} {fn:Func} {c:Code} {ar:List D} {h:List AO} {cZ:D->List AO->Prop} (n:Nat) (PL:List (Nat×mD)) (hf:prog.funcs[f]?=some fn)
 (hx:(xC ⟨vZ,n,true,0⟩ h.length PL c ⟨xy 0 ar,h⟩ .leaf).ok prog (Lf vZ fn.results.toList h cZ)) (hb:fn.body=some c:=by rfl) (hn:(Nat.beq fn.ntmps n&&(Nat.ble ar.length n&&(rj prog f&&rQ PL c)))=true:=by kernel_rfl):bC prog f ar h cZ:=DX true n PL hf hx hb hn
def Ad:List (Nat×tE)->List (Nat×mD)
 |[]=>[]
 |(i,p)::r=>(i,p.t)::Ad r
theorem kK [Wd] (dt:Bool) {f:FuncId} {fn:Func} {c:Code} {ar:List D} {h:List AO} {cZ:D->List AO->Prop} (n:Nat) (PL:List (Nat×tE)) (hf:prog.funcs[f]?=some fn)
 (hx:(xC ⟨vZ,n,dt,0⟩ h.length (Ad PL) c ⟨xy 0 ar,h⟩ .leaf).ok prog (Lf vZ fn.results.toList h cZ)) (hb:fn.body=some c:=by rfl) (hn:(Nat.beq fn.ntmps n&&(Nat.ble ar.length n&&(rj prog f&&rQ (Ad PL) c)))=true:=by kernel_rfl):bC prog f ar h cZ:=DX dt n (Ad PL) hf hx hb hn
theorem ak [Wd] {f:FuncId} {fn:Func} {c:Code} {ar:List D} {h:List AO} {cZ:D->List AO->Prop} (n:Nat) (PL:List (Nat×tE)) (hf:prog.funcs[f]?=some fn)
 (hx:(xC ⟨vZ,n,true,0⟩ h.length (Ad PL) c ⟨xy 0 ar,h⟩ .leaf).ok prog (Lf vZ fn.results.toList h cZ)) (hb:fn.body=some c:=by rfl) (hn:(Nat.beq fn.ntmps n&&(Nat.ble ar.length n&&(rj prog f&&rQ (Ad PL) c)))=true:=by kernel_rfl):bC prog f ar h cZ:=DX true n (Ad PL) hf hx hb hn
instance S1:Wd where
 A:=fun _=>False
 W:=fun _ _=>True
 kY:=fun _=>False
 aI:=fun _ _ h=>h.elim
 cl:=fun _ _ _=>trivial
class Ae [Wd]:Prop where
 np:∀ch,¬Wd.kY ch
instance:@Ae S1:=@Ae.mk S1 (fun _ h=>h)
theorem bC.old [Wd] {P:Program} {f:FuncId} {ar:List D} {r:D} {v:Value} (hv:∀I w,Dr I w v r) (xz:rj P f=true) (h:∀w I vs,dQ I w vs ar->Calls P f vs.toArray w fun e w'=>e=.returned v/\B w w') (hp:ga.pl ar=true):bC P f ar [] (fun r' h'=>r'=r/\h'=[]):=by
 refine⟨xz,fun w I g vs _ hd ha=>(h w I vs (ur ha hp)).mono ?_⟩
 rintro e w' ⟨rfl,hb⟩
 have hg:g=[]:=List.eq_nil_of_length_eq_zero hd.len
 subst hg
 exact .inl ⟨v,I,[],r,[],rfl,⟨rfl,rfl⟩,hd.later hb,.rd (hv I w'),Ext.of_B hb,fun _ h=>h,fun _ h=>.inl h,fun b h=>.inl h,fun o p t cs _ h=>by simp at h⟩
end Go.Proofs.YtafomdobfmmleaaGreatDoor
