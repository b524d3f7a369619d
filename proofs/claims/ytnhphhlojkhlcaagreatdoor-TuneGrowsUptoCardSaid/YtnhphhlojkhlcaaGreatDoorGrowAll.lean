/- All runs together. Nothing is claimed here. -/
import Derived.Test.YtnhphhlojkhlcaaGreatDoorGrowLaw
import Derived.Test.YtnhphhlojkhlcaaGreatDoorGxOfA
import Derived.Test.YtnhphhlojkhlcaaGreatDoorGrowR0
import Derived.Test.YtnhphhlojkhlcaaGreatDoorGrowR1
import Derived.Test.YtnhphhlojkhlcaaGreatDoorGrowR2
import Derived.Test.YtnhphhlojkhlcaaGreatDoorGrowR3
import Derived.Test.YtnhphhlojkhlcaaGreatDoorGrowR4
import Derived.Test.YtnhphhlojkhlcaaGreatDoorGrowR5
import Derived.Test.YtnhphhlojkhlcaaGreatDoorGrowR6
import Derived.Test.YtnhphhlojkhlcaaGreatDoorGrowR7
import Derived.Test.YtnhphhlojkhlcaaGreatDoorGrowR8
import Derived.Test.YtnhphhlojkhlcaaGreatDoorGrowR9
import Derived.Test.YtnhphhlojkhlcaaGreatDoorGrowR10
import Derived.Test.YtnhphhlojkhlcaaGreatDoorGrowR11
import Derived.Test.YtnhphhlojkhlcaaGreatDoorGrowR12
import Derived.Test.YtnhphhlojkhlcaaGreatDoorGrowR13
namespace Go.Proofs.YtnhphhlojkhlcaaGreatDoor
open Go Go.Sx Go.RowKit
theorem grows_0 (c : Nat) (h1 : 0 ≤ c) (h2 : c < 16) : grAZ c = .ok ∧ grZA c = .ok ∧ grAA c = .ok := by
  have h : c = 0 ∨ c = 1 ∨ c = 2 ∨ c = 3 ∨ c = 4 ∨ c = 5 ∨ c = 6 ∨ c = 7 ∨ c = 8 ∨ c = 9 ∨ c = 10 ∨ c = 11 ∨ c = 12 ∨ c = 13 ∨ c = 14 ∨ c = 15 := by omega
  rcases h with rfl | rfl | rfl | rfl | rfl | rfl | rfl | rfl | rfl | rfl | rfl | rfl | rfl | rfl | rfl | rfl
  · exact ⟨grAZ0, grZA0, grAA0⟩
  · exact ⟨grAZ1, grZA1, grAA1⟩
  · exact ⟨grAZ2, grZA2, grAA2⟩
  · exact ⟨grAZ3, grZA3, grAA3⟩
  · exact ⟨grAZ4, grZA4, grAA4⟩
  · exact ⟨grAZ5, grZA5, grAA5⟩
  · exact ⟨grAZ6, grZA6, grAA6⟩
  · exact ⟨grAZ7, grZA7, grAA7⟩
  · exact ⟨grAZ8, grZA8, grAA8⟩
  · exact ⟨grAZ9, grZA9, grAA9⟩
  · exact ⟨grAZ10, grZA10, grAA10⟩
  · exact ⟨grAZ11, grZA11, grAA11⟩
  · exact ⟨grAZ12, grZA12, grAA12⟩
  · exact ⟨grAZ13, grZA13, grAA13⟩
  · exact ⟨grAZ14, grZA14, grAA14⟩
  · exact ⟨grAZ15, grZA15, grAA15⟩
theorem grows_1 (c : Nat) (h1 : 16 ≤ c) (h2 : c < 32) : grAZ c = .ok ∧ grZA c = .ok ∧ grAA c = .ok := by
  have h : c = 16 ∨ c = 17 ∨ c = 18 ∨ c = 19 ∨ c = 20 ∨ c = 21 ∨ c = 22 ∨ c = 23 ∨ c = 24 ∨ c = 25 ∨ c = 26 ∨ c = 27 ∨ c = 28 ∨ c = 29 ∨ c = 30 ∨ c = 31 := by omega
  rcases h with rfl | rfl | rfl | rfl | rfl | rfl | rfl | rfl | rfl | rfl | rfl | rfl | rfl | rfl | rfl | rfl
  · exact ⟨grAZ16, grZA16, grAA16⟩
  · exact ⟨grAZ17, grZA17, grAA17⟩
  · exact ⟨grAZ18, grZA18, grAA18⟩
  · exact ⟨grAZ19, grZA19, grAA19⟩
  · exact ⟨grAZ20, grZA20, grAA20⟩
  · exact ⟨grAZ21, grZA21, grAA21⟩
  · exact ⟨grAZ22, grZA22, grAA22⟩
  · exact ⟨grAZ23, grZA23, grAA23⟩
  · exact ⟨grAZ24, grZA24, grAA24⟩
  · exact ⟨grAZ25, grZA25, grAA25⟩
  · exact ⟨grAZ26, grZA26, grAA26⟩
  · exact ⟨grAZ27, grZA27, grAA27⟩
  · exact ⟨grAZ28, grZA28, grAA28⟩
  · exact ⟨grAZ29, grZA29, grAA29⟩
  · exact ⟨grAZ30, grZA30, grAA30⟩
  · exact ⟨grAZ31, grZA31, grAA31⟩
theorem grows_2 (c : Nat) (h1 : 32 ≤ c) (h2 : c < 48) : grAZ c = .ok ∧ grZA c = .ok ∧ grAA c = .ok := by
  have h : c = 32 ∨ c = 33 ∨ c = 34 ∨ c = 35 ∨ c = 36 ∨ c = 37 ∨ c = 38 ∨ c = 39 ∨ c = 40 ∨ c = 41 ∨ c = 42 ∨ c = 43 ∨ c = 44 ∨ c = 45 ∨ c = 46 ∨ c = 47 := by omega
  rcases h with rfl | rfl | rfl | rfl | rfl | rfl | rfl | rfl | rfl | rfl | rfl | rfl | rfl | rfl | rfl | rfl
  · exact ⟨grAZ32, grZA32, grAA32⟩
  · exact ⟨grAZ33, grZA33, grAA33⟩
  · exact ⟨grAZ34, grZA34, grAA34⟩
  · exact ⟨grAZ35, grZA35, grAA35⟩
  · exact ⟨grAZ36, grZA36, grAA36⟩
  · exact ⟨grAZ37, grZA37, grAA37⟩
  · exact ⟨grAZ38, grZA38, grAA38⟩
  · exact ⟨grAZ39, grZA39, grAA39⟩
  · exact ⟨grAZ40, grZA40, grAA40⟩
  · exact ⟨grAZ41, grZA41, grAA41⟩
  · exact ⟨grAZ42, grZA42, grAA42⟩
  · exact ⟨grAZ43, grZA43, grAA43⟩
  · exact ⟨grAZ44, grZA44, grAA44⟩
  · exact ⟨grAZ45, grZA45, grAA45⟩
  · exact ⟨grAZ46, grZA46, grAA46⟩
  · exact ⟨grAZ47, grZA47, grAA47⟩
theorem grows_3 (c : Nat) (h1 : 48 ≤ c) (h2 : c < 64) : grAZ c = .ok ∧ grZA c = .ok ∧ grAA c = .ok := by
  have h : c = 48 ∨ c = 49 ∨ c = 50 ∨ c = 51 ∨ c = 52 ∨ c = 53 ∨ c = 54 ∨ c = 55 ∨ c = 56 ∨ c = 57 ∨ c = 58 ∨ c = 59 ∨ c = 60 ∨ c = 61 ∨ c = 62 ∨ c = 63 := by omega
  rcases h with rfl | rfl | rfl | rfl | rfl | rfl | rfl | rfl | rfl | rfl | rfl | rfl | rfl | rfl | rfl | rfl
  · exact ⟨grAZ48, grZA48, grAA48⟩
  · exact ⟨grAZ49, grZA49, grAA49⟩
  · exact ⟨grAZ50, grZA50, grAA50⟩
  · exact ⟨grAZ51, grZA51, grAA51⟩
  · exact ⟨grAZ52, grZA52, grAA52⟩
  · exact ⟨grAZ53, grZA53, grAA53⟩
  · exact ⟨grAZ54, grZA54, grAA54⟩
  · exact ⟨grAZ55, grZA55, grAA55⟩
  · exact ⟨grAZ56, grZA56, grAA56⟩
  · exact ⟨grAZ57, grZA57, grAA57⟩
  · exact ⟨grAZ58, grZA58, grAA58⟩
  · exact ⟨grAZ59, grZA59, grAA59⟩
  · exact ⟨grAZ60, grZA60, grAA60⟩
  · exact ⟨grAZ61, grZA61, grAA61⟩
  · exact ⟨grAZ62, grZA62, grAA62⟩
  · exact ⟨grAZ63, grZA63, grAA63⟩
theorem grows_4 (c : Nat) (h1 : 64 ≤ c) (h2 : c < 80) : grAZ c = .ok ∧ grZA c = .ok ∧ grAA c = .ok := by
  have h : c = 64 ∨ c = 65 ∨ c = 66 ∨ c = 67 ∨ c = 68 ∨ c = 69 ∨ c = 70 ∨ c = 71 ∨ c = 72 ∨ c = 73 ∨ c = 74 ∨ c = 75 ∨ c = 76 ∨ c = 77 ∨ c = 78 ∨ c = 79 := by omega
  rcases h with rfl | rfl | rfl | rfl | rfl | rfl | rfl | rfl | rfl | rfl | rfl | rfl | rfl | rfl | rfl | rfl
  · exact ⟨grAZ64, grZA64, grAA64⟩
  · exact ⟨grAZ65, grZA65, grAA65⟩
  · exact ⟨grAZ66, grZA66, grAA66⟩
  · exact ⟨grAZ67, grZA67, grAA67⟩
  · exact ⟨grAZ68, grZA68, grAA68⟩
  · exact ⟨grAZ69, grZA69, grAA69⟩
  · exact ⟨grAZ70, grZA70, grAA70⟩
  · exact ⟨grAZ71, grZA71, grAA71⟩
  · exact ⟨grAZ72, grZA72, grAA72⟩
  · exact ⟨grAZ73, grZA73, grAA73⟩
  · exact ⟨grAZ74, grZA74, grAA74⟩
  · exact ⟨grAZ75, grZA75, grAA75⟩
  · exact ⟨grAZ76, grZA76, grAA76⟩
  · exact ⟨grAZ77, grZA77, grAA77⟩
  · exact ⟨grAZ78, grZA78, grAA78⟩
  · exact ⟨grAZ79, grZA79, grAA79⟩
theorem grows_5 (c : Nat) (h1 : 80 ≤ c) (h2 : c < 96) : grAZ c = .ok ∧ grZA c = .ok ∧ grAA c = .ok := by
  have h : c = 80 ∨ c = 81 ∨ c = 82 ∨ c = 83 ∨ c = 84 ∨ c = 85 ∨ c = 86 ∨ c = 87 ∨ c = 88 ∨ c = 89 ∨ c = 90 ∨ c = 91 ∨ c = 92 ∨ c = 93 ∨ c = 94 ∨ c = 95 := by omega
  rcases h with rfl | rfl | rfl | rfl | rfl | rfl | rfl | rfl | rfl | rfl | rfl | rfl | rfl | rfl | rfl | rfl
  · exact ⟨grAZ80, grZA80, grAA80⟩
  · exact ⟨grAZ81, grZA81, grAA81⟩
  · exact ⟨grAZ82, grZA82, grAA82⟩
  · exact ⟨grAZ83, grZA83, grAA83⟩
  · exact ⟨grAZ84, grZA84, grAA84⟩
  · exact ⟨grAZ85, grZA85, grAA85⟩
  · exact ⟨grAZ86, grZA86, grAA86⟩
  · exact ⟨grAZ87, grZA87, grAA87⟩
  · exact ⟨grAZ88, grZA88, grAA88⟩
  · exact ⟨grAZ89, grZA89, grAA89⟩
  · exact ⟨grAZ90, grZA90, grAA90⟩
  · exact ⟨grAZ91, grZA91, grAA91⟩
  · exact ⟨grAZ92, grZA92, grAA92⟩
  · exact ⟨grAZ93, grZA93, grAA93⟩
  · exact ⟨grAZ94, grZA94, grAA94⟩
  · exact ⟨grAZ95, grZA95, grAA95⟩
theorem grows_6 (c : Nat) (h1 : 96 ≤ c) (h2 : c < 112) : grAZ c = .ok ∧ grZA c = .ok ∧ grAA c = .ok := by
  have h : c = 96 ∨ c = 97 ∨ c = 98 ∨ c = 99 ∨ c = 100 ∨ c = 101 ∨ c = 102 ∨ c = 103 ∨ c = 104 ∨ c = 105 ∨ c = 106 ∨ c = 107 ∨ c = 108 ∨ c = 109 ∨ c = 110 ∨ c = 111 := by omega
  rcases h with rfl | rfl | rfl | rfl | rfl | rfl | rfl | rfl | rfl | rfl | rfl | rfl | rfl | rfl | rfl | rfl
  · exact ⟨grAZ96, grZA96, grAA96⟩
  · exact ⟨grAZ97, grZA97, grAA97⟩
  · exact ⟨grAZ98, grZA98, grAA98⟩
  · exact ⟨grAZ99, grZA99, grAA99⟩
  · exact ⟨grAZ100, grZA100, grAA100⟩
  · exact ⟨grAZ101, grZA101, grAA101⟩
  · exact ⟨grAZ102, grZA102, grAA102⟩
  · exact ⟨grAZ103, grZA103, grAA103⟩
  · exact ⟨grAZ104, grZA104, grAA104⟩
  · exact ⟨grAZ105, grZA105, grAA105⟩
  · exact ⟨grAZ106, grZA106, grAA106⟩
  · exact ⟨grAZ107, grZA107, grAA107⟩
  · exact ⟨grAZ108, grZA108, grAA108⟩
  · exact ⟨grAZ109, grZA109, grAA109⟩
  · exact ⟨grAZ110, grZA110, grAA110⟩
  · exact ⟨grAZ111, grZA111, grAA111⟩
theorem grows_7 (c : Nat) (h1 : 112 ≤ c) (h2 : c < 128) : grAZ c = .ok ∧ grZA c = .ok ∧ grAA c = .ok := by
  have h : c = 112 ∨ c = 113 ∨ c = 114 ∨ c = 115 ∨ c = 116 ∨ c = 117 ∨ c = 118 ∨ c = 119 ∨ c = 120 ∨ c = 121 ∨ c = 122 ∨ c = 123 ∨ c = 124 ∨ c = 125 ∨ c = 126 ∨ c = 127 := by omega
  rcases h with rfl | rfl | rfl | rfl | rfl | rfl | rfl | rfl | rfl | rfl | rfl | rfl | rfl | rfl | rfl | rfl
  · exact ⟨grAZ112, grZA112, grAA112⟩
  · exact ⟨grAZ113, grZA113, grAA113⟩
  · exact ⟨grAZ114, grZA114, grAA114⟩
  · exact ⟨grAZ115, grZA115, grAA115⟩
  · exact ⟨grAZ116, grZA116, grAA116⟩
  · exact ⟨grAZ117, grZA117, grAA117⟩
  · exact ⟨grAZ118, grZA118, grAA118⟩
  · exact ⟨grAZ119, grZA119, grAA119⟩
  · exact ⟨grAZ120, grZA120, grAA120⟩
  · exact ⟨grAZ121, grZA121, grAA121⟩
  · exact ⟨grAZ122, grZA122, grAA122⟩
  · exact ⟨grAZ123, grZA123, grAA123⟩
  · exact ⟨grAZ124, grZA124, grAA124⟩
  · exact ⟨grAZ125, grZA125, grAA125⟩
  · exact ⟨grAZ126, grZA126, grAA126⟩
  · exact ⟨grAZ127, grZA127, grAA127⟩
theorem grows_8 (c : Nat) (h1 : 128 ≤ c) (h2 : c < 144) : grAZ c = .ok ∧ grZA c = .ok ∧ grAA c = .ok := by
  have h : c = 128 ∨ c = 129 ∨ c = 130 ∨ c = 131 ∨ c = 132 ∨ c = 133 ∨ c = 134 ∨ c = 135 ∨ c = 136 ∨ c = 137 ∨ c = 138 ∨ c = 139 ∨ c = 140 ∨ c = 141 ∨ c = 142 ∨ c = 143 := by omega
  rcases h with rfl | rfl | rfl | rfl | rfl | rfl | rfl | rfl | rfl | rfl | rfl | rfl | rfl | rfl | rfl | rfl
  · exact ⟨grAZ128, grZA128, grAA128⟩
  · exact ⟨grAZ129, grZA129, grAA129⟩
  · exact ⟨grAZ130, grZA130, grAA130⟩
  · exact ⟨grAZ131, grZA131, grAA131⟩
  · exact ⟨grAZ132, grZA132, grAA132⟩
  · exact ⟨grAZ133, grZA133, grAA133⟩
  · exact ⟨grAZ134, grZA134, grAA134⟩
  · exact ⟨grAZ135, grZA135, grAA135⟩
  · exact ⟨grAZ136, grZA136, grAA136⟩
  · exact ⟨grAZ137, grZA137, grAA137⟩
  · exact ⟨grAZ138, grZA138, grAA138⟩
  · exact ⟨grAZ139, grZA139, grAA139⟩
  · exact ⟨grAZ140, grZA140, grAA140⟩
  · exact ⟨grAZ141, grZA141, grAA141⟩
  · exact ⟨grAZ142, grZA142, grAA142⟩
  · exact ⟨grAZ143, grZA143, grAA143⟩
theorem grows_9 (c : Nat) (h1 : 144 ≤ c) (h2 : c < 160) : grAZ c = .ok ∧ grZA c = .ok ∧ grAA c = .ok := by
  have h : c = 144 ∨ c = 145 ∨ c = 146 ∨ c = 147 ∨ c = 148 ∨ c = 149 ∨ c = 150 ∨ c = 151 ∨ c = 152 ∨ c = 153 ∨ c = 154 ∨ c = 155 ∨ c = 156 ∨ c = 157 ∨ c = 158 ∨ c = 159 := by omega
  rcases h with rfl | rfl | rfl | rfl | rfl | rfl | rfl | rfl | rfl | rfl | rfl | rfl | rfl | rfl | rfl | rfl
  · exact ⟨grAZ144, grZA144, grAA144⟩
  · exact ⟨grAZ145, grZA145, grAA145⟩
  · exact ⟨grAZ146, grZA146, grAA146⟩
  · exact ⟨grAZ147, grZA147, grAA147⟩
  · exact ⟨grAZ148, grZA148, grAA148⟩
  · exact ⟨grAZ149, grZA149, grAA149⟩
  · exact ⟨grAZ150, grZA150, grAA150⟩
  · exact ⟨grAZ151, grZA151, grAA151⟩
  · exact ⟨grAZ152, grZA152, grAA152⟩
  · exact ⟨grAZ153, grZA153, grAA153⟩
  · exact ⟨grAZ154, grZA154, grAA154⟩
  · exact ⟨grAZ155, grZA155, grAA155⟩
  · exact ⟨grAZ156, grZA156, grAA156⟩
  · exact ⟨grAZ157, grZA157, grAA157⟩
  · exact ⟨grAZ158, grZA158, grAA158⟩
  · exact ⟨grAZ159, grZA159, grAA159⟩
theorem grows_10 (c : Nat) (h1 : 160 ≤ c) (h2 : c < 176) : grAZ c = .ok ∧ grZA c = .ok ∧ grAA c = .ok := by
  have h : c = 160 ∨ c = 161 ∨ c = 162 ∨ c = 163 ∨ c = 164 ∨ c = 165 ∨ c = 166 ∨ c = 167 ∨ c = 168 ∨ c = 169 ∨ c = 170 ∨ c = 171 ∨ c = 172 ∨ c = 173 ∨ c = 174 ∨ c = 175 := by omega
  rcases h with rfl | rfl | rfl | rfl | rfl | rfl | rfl | rfl | rfl | rfl | rfl | rfl | rfl | rfl | rfl | rfl
  · exact ⟨grAZ160, grZA160, grAA160⟩
  · exact ⟨grAZ161, grZA161, grAA161⟩
  · exact ⟨grAZ162, grZA162, grAA162⟩
  · exact ⟨grAZ163, grZA163, grAA163⟩
  · exact ⟨grAZ164, grZA164, grAA164⟩
  · exact ⟨grAZ165, grZA165, grAA165⟩
  · exact ⟨grAZ166, grZA166, grAA166⟩
  · exact ⟨grAZ167, grZA167, grAA167⟩
  · exact ⟨grAZ168, grZA168, grAA168⟩
  · exact ⟨grAZ169, grZA169, grAA169⟩
  · exact ⟨grAZ170, grZA170, grAA170⟩
  · exact ⟨grAZ171, grZA171, grAA171⟩
  · exact ⟨grAZ172, grZA172, grAA172⟩
  · exact ⟨grAZ173, grZA173, grAA173⟩
  · exact ⟨grAZ174, grZA174, grAA174⟩
  · exact ⟨grAZ175, grZA175, grAA175⟩
theorem grows_11 (c : Nat) (h1 : 176 ≤ c) (h2 : c < 192) : grAZ c = .ok ∧ grZA c = .ok ∧ grAA c = .ok := by
  have h : c = 176 ∨ c = 177 ∨ c = 178 ∨ c = 179 ∨ c = 180 ∨ c = 181 ∨ c = 182 ∨ c = 183 ∨ c = 184 ∨ c = 185 ∨ c = 186 ∨ c = 187 ∨ c = 188 ∨ c = 189 ∨ c = 190 ∨ c = 191 := by omega
  rcases h with rfl | rfl | rfl | rfl | rfl | rfl | rfl | rfl | rfl | rfl | rfl | rfl | rfl | rfl | rfl | rfl
  · exact ⟨grAZ176, grZA176, grAA176⟩
  · exact ⟨grAZ177, grZA177, grAA177⟩
  · exact ⟨grAZ178, grZA178, grAA178⟩
  · exact ⟨grAZ179, grZA179, grAA179⟩
  · exact ⟨grAZ180, grZA180, grAA180⟩
  · exact ⟨grAZ181, grZA181, grAA181⟩
  · exact ⟨grAZ182, grZA182, grAA182⟩
  · exact ⟨grAZ183, grZA183, grAA183⟩
  · exact ⟨grAZ184, grZA184, grAA184⟩
  · exact ⟨grAZ185, grZA185, grAA185⟩
  · exact ⟨grAZ186, grZA186, grAA186⟩
  · exact ⟨grAZ187, grZA187, grAA187⟩
  · exact ⟨grAZ188, grZA188, grAA188⟩
  · exact ⟨grAZ189, grZA189, grAA189⟩
  · exact ⟨grAZ190, grZA190, grAA190⟩
  · exact ⟨grAZ191, grZA191, grAA191⟩
theorem grows_12 (c : Nat) (h1 : 192 ≤ c) (h2 : c < 208) : grAZ c = .ok ∧ grZA c = .ok ∧ grAA c = .ok := by
  have h : c = 192 ∨ c = 193 ∨ c = 194 ∨ c = 195 ∨ c = 196 ∨ c = 197 ∨ c = 198 ∨ c = 199 ∨ c = 200 ∨ c = 201 ∨ c = 202 ∨ c = 203 ∨ c = 204 ∨ c = 205 ∨ c = 206 ∨ c = 207 := by omega
  rcases h with rfl | rfl | rfl | rfl | rfl | rfl | rfl | rfl | rfl | rfl | rfl | rfl | rfl | rfl | rfl | rfl
  · exact ⟨grAZ192, grZA192, grAA192⟩
  · exact ⟨grAZ193, grZA193, grAA193⟩
  · exact ⟨grAZ194, grZA194, grAA194⟩
  · exact ⟨grAZ195, grZA195, grAA195⟩
  · exact ⟨grAZ196, grZA196, grAA196⟩
  · exact ⟨grAZ197, grZA197, grAA197⟩
  · exact ⟨grAZ198, grZA198, grAA198⟩
  · exact ⟨grAZ199, grZA199, grAA199⟩
  · exact ⟨grAZ200, grZA200, grAA200⟩
  · exact ⟨grAZ201, grZA201, grAA201⟩
  · exact ⟨grAZ202, grZA202, grAA202⟩
  · exact ⟨grAZ203, grZA203, grAA203⟩
  · exact ⟨grAZ204, grZA204, grAA204⟩
  · exact ⟨grAZ205, grZA205, grAA205⟩
  · exact ⟨grAZ206, grZA206, grAA206⟩
  · exact ⟨grAZ207, grZA207, grAA207⟩
theorem grows_13 (c : Nat) (h1 : 208 ≤ c) (h2 : c < 224) : grAZ c = .ok ∧ grZA c = .ok ∧ grAA c = .ok := by
  have h : c = 208 ∨ c = 209 ∨ c = 210 ∨ c = 211 ∨ c = 212 ∨ c = 213 ∨ c = 214 ∨ c = 215 ∨ c = 216 ∨ c = 217 ∨ c = 218 ∨ c = 219 ∨ c = 220 ∨ c = 221 ∨ c = 222 ∨ c = 223 := by omega
  rcases h with rfl | rfl | rfl | rfl | rfl | rfl | rfl | rfl | rfl | rfl | rfl | rfl | rfl | rfl | rfl | rfl
  · exact ⟨grAZ208, grZA208, grAA208⟩
  · exact ⟨grAZ209, grZA209, grAA209⟩
  · exact ⟨grAZ210, grZA210, grAA210⟩
  · exact ⟨grAZ211, grZA211, grAA211⟩
  · exact ⟨grAZ212, grZA212, grAA212⟩
  · exact ⟨grAZ213, grZA213, grAA213⟩
  · exact ⟨grAZ214, grZA214, grAA214⟩
  · exact ⟨grAZ215, grZA215, grAA215⟩
  · exact ⟨grAZ216, grZA216, grAA216⟩
  · exact ⟨grAZ217, grZA217, grAA217⟩
  · exact ⟨grAZ218, grZA218, grAA218⟩
  · exact ⟨grAZ219, grZA219, grAA219⟩
  · exact ⟨grAZ220, grZA220, grAA220⟩
  · exact ⟨grAZ221, grZA221, grAA221⟩
  · exact ⟨grAZ222, grZA222, grAA222⟩
  · exact ⟨grAZ223, grZA223, grAA223⟩
theorem grows_14 (c : Nat) (h1 : 224 ≤ c) (h2 : c < 240) : grAZ c = .ok ∧ grZA c = .ok ∧ grAA c = .ok := by
  have h : c = 224 ∨ c = 225 ∨ c = 226 ∨ c = 227 ∨ c = 228 ∨ c = 229 ∨ c = 230 ∨ c = 231 ∨ c = 232 ∨ c = 233 ∨ c = 234 ∨ c = 235 ∨ c = 236 ∨ c = 237 ∨ c = 238 ∨ c = 239 := by omega
  rcases h with rfl | rfl | rfl | rfl | rfl | rfl | rfl | rfl | rfl | rfl | rfl | rfl | rfl | rfl | rfl | rfl
  · exact ⟨grAZ224, grZA224, grAA224⟩
  · exact ⟨grAZ225, grZA225, grAA225⟩
  · exact ⟨grAZ226, grZA226, grAA226⟩
  · exact ⟨grAZ227, grZA227, grAA227⟩
  · exact ⟨grAZ228, grZA228, grAA228⟩
  · exact ⟨grAZ229, grZA229, grAA229⟩
  · exact ⟨grAZ230, grZA230, grAA230⟩
  · exact ⟨grAZ231, grZA231, grAA231⟩
  · exact ⟨grAZ232, grZA232, grAA232⟩
  · exact ⟨grAZ233, grZA233, grAA233⟩
  · exact ⟨grAZ234, grZA234, grAA234⟩
  · exact ⟨grAZ235, grZA235, grAA235⟩
  · exact ⟨grAZ236, grZA236, grAA236⟩
  · exact ⟨grAZ237, grZA237, grAA237⟩
  · exact ⟨grAZ238, grZA238, grAA238⟩
  · exact ⟨grAZ239, grZA239, grAA239⟩
theorem grows_15 (c : Nat) (h1 : 240 ≤ c) (h2 : c < 256) : grAZ c = .ok ∧ grZA c = .ok ∧ grAA c = .ok := by
  have h : c = 240 ∨ c = 241 ∨ c = 242 ∨ c = 243 ∨ c = 244 ∨ c = 245 ∨ c = 246 ∨ c = 247 ∨ c = 248 ∨ c = 249 ∨ c = 250 ∨ c = 251 ∨ c = 252 ∨ c = 253 ∨ c = 254 ∨ c = 255 := by omega
  rcases h with rfl | rfl | rfl | rfl | rfl | rfl | rfl | rfl | rfl | rfl | rfl | rfl | rfl | rfl | rfl | rfl
  · exact ⟨grAZ240, grZA240, grAA240⟩
  · exact ⟨grAZ241, grZA241, grAA241⟩
  · exact ⟨grAZ242, grZA242, grAA242⟩
  · exact ⟨grAZ243, grZA243, grAA243⟩
  · exact ⟨grAZ244, grZA244, grAA244⟩
  · exact ⟨grAZ245, grZA245, grAA245⟩
  · exact ⟨grAZ246, grZA246, grAA246⟩
  · exact ⟨grAZ247, grZA247, grAA247⟩
  · exact ⟨grAZ248, grZA248, grAA248⟩
  · exact ⟨grAZ249, grZA249, grAA249⟩
  · exact ⟨grAZ250, grZA250, grAA250⟩
  · exact ⟨grAZ251, grZA251, grAA251⟩
  · exact ⟨grAZ252, grZA252, grAA252⟩
  · exact ⟨grAZ253, grZA253, grAA253⟩
  · exact ⟨grAZ254, grZA254, grAA254⟩
  · exact ⟨grAZ255, grZA255, grAA255⟩
theorem grows_all (c : Nat) (h : c < 256) : grAZ c = .ok ∧ grZA c = .ok ∧ grAA c = .ok := by
  by_cases g0 : c < 16
  · exact grows_0 c (by omega) g0
  by_cases g1 : c < 32
  · exact grows_1 c (by omega) g1
  by_cases g2 : c < 48
  · exact grows_2 c (by omega) g2
  by_cases g3 : c < 64
  · exact grows_3 c (by omega) g3
  by_cases g4 : c < 80
  · exact grows_4 c (by omega) g4
  by_cases g5 : c < 96
  · exact grows_5 c (by omega) g5
  by_cases g6 : c < 112
  · exact grows_6 c (by omega) g6
  by_cases g7 : c < 128
  · exact grows_7 c (by omega) g7
  by_cases g8 : c < 144
  · exact grows_8 c (by omega) g8
  by_cases g9 : c < 160
  · exact grows_9 c (by omega) g9
  by_cases g10 : c < 176
  · exact grows_10 c (by omega) g10
  by_cases g11 : c < 192
  · exact grows_11 c (by omega) g11
  by_cases g12 : c < 208
  · exact grows_12 c (by omega) g12
  by_cases g13 : c < 224
  · exact grows_13 c (by omega) g13
  by_cases g14 : c < 240
  · exact grows_14 c (by omega) g14
  exact grows_15 c (by omega) h
theorem growsOK : GrowsOK := ⟨grows_all, ⟨grZZ0, grZZ1, grHAZ_ok, grHZA_ok, grHAA_ok⟩, of_run ofA0 ofA1 ofA2 ofA3⟩
end Go.Proofs.YtnhphhlojkhlcaaGreatDoor
