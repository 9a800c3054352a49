/- A part of the proof by a deterministic interpreter of the loaded code (no condition of its own). -/
import Derived.Test.YtlodhfpkdlhmgaaGreatDoorGR5a
import Derived.Test.YtlodhfpkdlhmgaaGreatDoorGTabE
import Derived.ProofKit
namespace Go.GS.R5
theorem e5 : elabF PG Go.Proofs.Tryz.f5 a5 false = some g5 := by kernel_rfl
theorem o5 (B : Nat) : OKE PG B 5 (.code g5) := ⟨Go.Proofs.Tryz.f5, a5, Go.Proofs.Tryz.func5, e5⟩
theorem e21 : elabF PG Go.Proofs.Tryz.f21 a21 true = some g21 := by kernel_rfl
theorem o21 (B : Nat) : OKE PG B 21 (.code g21) := ⟨Go.Proofs.Tryz.f21, a21, Go.Proofs.Tryz.func21, e21⟩
theorem e24 : elabF PG Go.Proofs.Tryz.f24 a24 false = some g24 := by kernel_rfl
theorem o24 (B : Nat) : OKE PG B 24 (.code g24) := ⟨Go.Proofs.Tryz.f24, a24, Go.Proofs.Tryz.func24, e24⟩
theorem e25 : elabF PG Go.Proofs.Tryz.f25 a25 false = some g25 := by kernel_rfl
theorem o25 (B : Nat) : OKE PG B 25 (.code g25) := ⟨Go.Proofs.Tryz.f25, a25, Go.Proofs.Tryz.func25, e25⟩
theorem e36 : elabF PG Go.Proofs.Tryz.f36 a36 false = some g36 := by kernel_rfl
theorem o36 (B : Nat) : OKE PG B 36 (.code g36) := ⟨Go.Proofs.Tryz.f36, a36, Go.Proofs.Tryz.func36, e36⟩
theorem e40 : elabF PG Go.Proofs.Tryz.f40 a40 true = some g40 := by kernel_rfl
theorem o40 (B : Nat) : OKE PG B 40 (.code g40) := ⟨Go.Proofs.Tryz.f40, a40, Go.Proofs.Tryz.func40, e40⟩
theorem e41 : elabF PG Go.Proofs.Tryz.f41 a41 true = some g41 := by kernel_rfl
theorem o41 (B : Nat) : OKE PG B 41 (.code g41) := ⟨Go.Proofs.Tryz.f41, a41, Go.Proofs.Tryz.func41, e41⟩
theorem e42 : elabF PG Go.Proofs.Tryz.f42 a42 true = some g42 := by kernel_rfl
theorem o42 (B : Nat) : OKE PG B 42 (.code g42) := ⟨Go.Proofs.Tryz.f42, a42, Go.Proofs.Tryz.func42, e42⟩
theorem e46 : elabF PG Go.Proofs.Tryz.f46 a46 true = some g46 := by kernel_rfl
theorem o46 (B : Nat) : OKE PG B 46 (.code g46) := ⟨Go.Proofs.Tryz.f46, a46, Go.Proofs.Tryz.func46, e46⟩
theorem e48 : elabF PG Go.Proofs.Tryz.f48 a48 true = some g48 := by kernel_rfl
theorem o48 (B : Nat) : OKE PG B 48 (.code g48) := ⟨Go.Proofs.Tryz.f48, a48, Go.Proofs.Tryz.func48, e48⟩
theorem e76 : elabF PG Go.Proofs.Tryz.f76 a76 false = some g76 := by kernel_rfl
theorem o76 (B : Nat) : OKE PG B 76 (.code g76) := ⟨Go.Proofs.Tryz.f76, a76, Go.Proofs.Tryz.func76, e76⟩
theorem e77 : elabF PG Go.Proofs.Tryz.f77 a77 false = some g77 := by kernel_rfl
theorem o77 (B : Nat) : OKE PG B 77 (.code g77) := ⟨Go.Proofs.Tryz.f77, a77, Go.Proofs.Tryz.func77, e77⟩
theorem e78 : elabF PG Go.Proofs.Tryz.f78 a78 true = some g78 := by kernel_rfl
theorem o78 (B : Nat) : OKE PG B 78 (.code g78) := ⟨Go.Proofs.Tryz.f78, a78, Go.Proofs.Tryz.func78, e78⟩
theorem e79 : elabF PG Go.Proofs.Tryz.f79 a79 false = some g79 := by kernel_rfl
theorem o79 (B : Nat) : OKE PG B 79 (.code g79) := ⟨Go.Proofs.Tryz.f79, a79, Go.Proofs.Tryz.func79, e79⟩
theorem e80 : elabF PG Go.Proofs.Tryz.f80 a80 false = some g80 := by kernel_rfl
theorem o80 (B : Nat) : OKE PG B 80 (.code g80) := ⟨Go.Proofs.Tryz.f80, a80, Go.Proofs.Tryz.func80, e80⟩
theorem e85 : elabF PG Go.Proofs.Tryz.f85 a85 true = some g85 := by kernel_rfl
theorem o85 (B : Nat) : OKE PG B 85 (.code g85) := ⟨Go.Proofs.Tryz.f85, a85, Go.Proofs.Tryz.func85, e85⟩
theorem e86 : elabF PG Go.Proofs.Tryz.f86 a86 true = some g86 := by kernel_rfl
theorem o86 (B : Nat) : OKE PG B 86 (.code g86) := ⟨Go.Proofs.Tryz.f86, a86, Go.Proofs.Tryz.func86, e86⟩
theorem e87 : elabF PG Go.Proofs.Tryz.f87 a87 true = some g87 := by kernel_rfl
theorem o87 (B : Nat) : OKE PG B 87 (.code g87) := ⟨Go.Proofs.Tryz.f87, a87, Go.Proofs.Tryz.func87, e87⟩
theorem e88 : elabF PG Go.Proofs.Tryz.f88 a88 true = some g88 := by kernel_rfl
theorem o88 (B : Nat) : OKE PG B 88 (.code g88) := ⟨Go.Proofs.Tryz.f88, a88, Go.Proofs.Tryz.func88, e88⟩
theorem e89 : elabF PG Go.Proofs.Tryz.f89 a89 true = some g89 := by kernel_rfl
theorem o89 (B : Nat) : OKE PG B 89 (.code g89) := ⟨Go.Proofs.Tryz.f89, a89, Go.Proofs.Tryz.func89, e89⟩
theorem e90 : elabF PG Go.Proofs.Tryz.f90 a90 true = some g90 := by kernel_rfl
theorem o90 (B : Nat) : OKE PG B 90 (.code g90) := ⟨Go.Proofs.Tryz.f90, a90, Go.Proofs.Tryz.func90, e90⟩
theorem e91 : elabF PG Go.Proofs.Tryz.f91 a91 true = some g91 := by kernel_rfl
theorem o91 (B : Nat) : OKE PG B 91 (.code g91) := ⟨Go.Proofs.Tryz.f91, a91, Go.Proofs.Tryz.func91, e91⟩
theorem e92 : elabF PG Go.Proofs.Tryz.f92 a92 false = some g92 := by kernel_rfl
theorem o92 (B : Nat) : OKE PG B 92 (.code g92) := ⟨Go.Proofs.Tryz.f92, a92, Go.Proofs.Tryz.func92, e92⟩
theorem e93 : elabF PG Go.Proofs.Tryz.f93 a93 false = some g93 := by kernel_rfl
theorem o93 (B : Nat) : OKE PG B 93 (.code g93) := ⟨Go.Proofs.Tryz.f93, a93, Go.Proofs.Tryz.func93, e93⟩
theorem e95 : elabF PG Go.Proofs.Tryz.f95 a95 false = some g95 := by kernel_rfl
theorem o95 (B : Nat) : OKE PG B 95 (.code g95) := ⟨Go.Proofs.Tryz.f95, a95, Go.Proofs.Tryz.func95, e95⟩
theorem e96 : elabF PG Go.Proofs.Tryz.f96 a96 true = some g96 := by kernel_rfl
theorem o96 (B : Nat) : OKE PG B 96 (.code g96) := ⟨Go.Proofs.Tryz.f96, a96, Go.Proofs.Tryz.func96, e96⟩
theorem e97 : elabF PG Go.Proofs.Tryz.f97 a97 false = some g97 := by kernel_rfl
theorem o97 (B : Nat) : OKE PG B 97 (.code g97) := ⟨Go.Proofs.Tryz.f97, a97, Go.Proofs.Tryz.func97, e97⟩
theorem e99 : elabF PG Go.Proofs.Tryz.f99 a99 true = some g99 := by kernel_rfl
theorem o99 (B : Nat) : OKE PG B 99 (.code g99) := ⟨Go.Proofs.Tryz.f99, a99, Go.Proofs.Tryz.func99, e99⟩
theorem e100 : elabF PG Go.Proofs.Tryz.f100 a100 true = some g100 := by kernel_rfl
theorem o100 (B : Nat) : OKE PG B 100 (.code g100) := ⟨Go.Proofs.Tryz.f100, a100, Go.Proofs.Tryz.func100, e100⟩
theorem e101 : elabF PG Go.Proofs.Tryz.f101 a101 true = some g101 := by kernel_rfl
theorem o101 (B : Nat) : OKE PG B 101 (.code g101) := ⟨Go.Proofs.Tryz.f101, a101, Go.Proofs.Tryz.func101, e101⟩
theorem e102 : elabF PG Go.Proofs.Tryz.f102 a102 true = some g102 := by kernel_rfl
theorem o102 (B : Nat) : OKE PG B 102 (.code g102) := ⟨Go.Proofs.Tryz.f102, a102, Go.Proofs.Tryz.func102, e102⟩
theorem e112 : elabF PG Go.Proofs.Tryz.f112 a112 true = some g112 := by kernel_rfl
theorem o112 (B : Nat) : OKE PG B 112 (.code g112) := ⟨Go.Proofs.Tryz.f112, a112, Go.Proofs.Tryz.func112, e112⟩
theorem e131 : elabF PG Go.Proofs.Tryz.f131 a131 false = some g131 := by kernel_rfl
theorem o131 (B : Nat) : OKE PG B 131 (.code g131) := ⟨Go.Proofs.Tryz.f131, a131, Go.Proofs.Tryz.func131, e131⟩
theorem e132 : elabF PG Go.Proofs.Tryz.f132 a132 true = some g132 := by kernel_rfl
theorem o132 (B : Nat) : OKE PG B 132 (.code g132) := ⟨Go.Proofs.Tryz.f132, a132, Go.Proofs.Tryz.func132, e132⟩
theorem e133 : elabF PG Go.Proofs.Tryz.f133 a133 false = some g133 := by kernel_rfl
theorem o133 (B : Nat) : OKE PG B 133 (.code g133) := ⟨Go.Proofs.Tryz.f133, a133, Go.Proofs.Tryz.func133, e133⟩
theorem e134 : elabF PG Go.Proofs.Tryz.f134 a134 false = some g134 := by kernel_rfl
theorem o134 (B : Nat) : OKE PG B 134 (.code g134) := ⟨Go.Proofs.Tryz.f134, a134, Go.Proofs.Tryz.func134, e134⟩
theorem e135 : elabF PG Go.Proofs.Tryz.f135 a135 false = some g135 := by kernel_rfl
theorem o135 (B : Nat) : OKE PG B 135 (.code g135) := ⟨Go.Proofs.Tryz.f135, a135, Go.Proofs.Tryz.func135, e135⟩
theorem e136 : elabF PG Go.Proofs.Tryz.f136 a136 false = some g136 := by kernel_rfl
theorem o136 (B : Nat) : OKE PG B 136 (.code g136) := ⟨Go.Proofs.Tryz.f136, a136, Go.Proofs.Tryz.func136, e136⟩
theorem e137 : elabF PG Go.Proofs.Tryz.f137 a137 false = some g137 := by kernel_rfl
theorem o137 (B : Nat) : OKE PG B 137 (.code g137) := ⟨Go.Proofs.Tryz.f137, a137, Go.Proofs.Tryz.func137, e137⟩
theorem e138 : elabF PG Go.Proofs.Tryz.f138 a138 false = some g138 := by kernel_rfl
theorem o138 (B : Nat) : OKE PG B 138 (.code g138) := ⟨Go.Proofs.Tryz.f138, a138, Go.Proofs.Tryz.func138, e138⟩
theorem e139 : elabF PG Go.Proofs.Tryz.f139 a139 false = some g139 := by kernel_rfl
theorem o139 (B : Nat) : OKE PG B 139 (.code g139) := ⟨Go.Proofs.Tryz.f139, a139, Go.Proofs.Tryz.func139, e139⟩
theorem e141 : elabF PG Go.Proofs.Tryz.f141 a141 true = some g141 := by kernel_rfl
theorem o141 (B : Nat) : OKE PG B 141 (.code g141) := ⟨Go.Proofs.Tryz.f141, a141, Go.Proofs.Tryz.func141, e141⟩
theorem e142 : elabF PG Go.Proofs.Tryz.f142 a142 true = some g142 := by kernel_rfl
theorem o142 (B : Nat) : OKE PG B 142 (.code g142) := ⟨Go.Proofs.Tryz.f142, a142, Go.Proofs.Tryz.func142, e142⟩
theorem e143 : elabF PG Go.Proofs.Tryz.f143 a143 false = some g143 := by kernel_rfl
theorem o143 (B : Nat) : OKE PG B 143 (.code g143) := ⟨Go.Proofs.Tryz.f143, a143, Go.Proofs.Tryz.func143, e143⟩
theorem e144 : elabF PG Go.Proofs.Tryz.f144 a144 true = some g144 := by kernel_rfl
theorem o144 (B : Nat) : OKE PG B 144 (.code g144) := ⟨Go.Proofs.Tryz.f144, a144, Go.Proofs.Tryz.func144, e144⟩
theorem e145 : elabF PG Go.Proofs.Tryz.f145 a145 false = some g145 := by kernel_rfl
theorem o145 (B : Nat) : OKE PG B 145 (.code g145) := ⟨Go.Proofs.Tryz.f145, a145, Go.Proofs.Tryz.func145, e145⟩
theorem e146 : elabF PG Go.Proofs.Tryz.f146 a146 false = some g146 := by kernel_rfl
theorem o146 (B : Nat) : OKE PG B 146 (.code g146) := ⟨Go.Proofs.Tryz.f146, a146, Go.Proofs.Tryz.func146, e146⟩
theorem e147 : elabF PG Go.Proofs.Tryz.f147 a147 false = some g147 := by kernel_rfl
theorem o147 (B : Nat) : OKE PG B 147 (.code g147) := ⟨Go.Proofs.Tryz.f147, a147, Go.Proofs.Tryz.func147, e147⟩
theorem e148 : elabF PG Go.Proofs.Tryz.f148 a148 false = some g148 := by kernel_rfl
theorem o148 (B : Nat) : OKE PG B 148 (.code g148) := ⟨Go.Proofs.Tryz.f148, a148, Go.Proofs.Tryz.func148, e148⟩
theorem e149 : elabF PG Go.Proofs.Tryz.f149 a149 true = some g149 := by kernel_rfl
theorem o149 (B : Nat) : OKE PG B 149 (.code g149) := ⟨Go.Proofs.Tryz.f149, a149, Go.Proofs.Tryz.func149, e149⟩
theorem e150 : elabF PG Go.Proofs.Tryz.f150 a150 true = some g150 := by kernel_rfl
theorem o150 (B : Nat) : OKE PG B 150 (.code g150) := ⟨Go.Proofs.Tryz.f150, a150, Go.Proofs.Tryz.func150, e150⟩
theorem e151 : elabF PG Go.Proofs.Tryz.f151 a151 true = some g151 := by kernel_rfl
theorem o151 (B : Nat) : OKE PG B 151 (.code g151) := ⟨Go.Proofs.Tryz.f151, a151, Go.Proofs.Tryz.func151, e151⟩
theorem e152 : elabF PG Go.Proofs.Tryz.f152 a152 true = some g152 := by kernel_rfl
theorem o152 (B : Nat) : OKE PG B 152 (.code g152) := ⟨Go.Proofs.Tryz.f152, a152, Go.Proofs.Tryz.func152, e152⟩
theorem e153 : elabF PG Go.Proofs.Tryz.f153 a153 false = some g153 := by kernel_rfl
theorem o153 (B : Nat) : OKE PG B 153 (.code g153) := ⟨Go.Proofs.Tryz.f153, a153, Go.Proofs.Tryz.func153, e153⟩
theorem e160 : elabF PG Go.Proofs.Tryz.f160 a160 true = some g160 := by kernel_rfl
theorem o160 (B : Nat) : OKE PG B 160 (.code g160) := ⟨Go.Proofs.Tryz.f160, a160, Go.Proofs.Tryz.func160, e160⟩
theorem e161 : elabF PG Go.Proofs.Tryz.f161 a161 true = some g161 := by kernel_rfl
theorem o161 (B : Nat) : OKE PG B 161 (.code g161) := ⟨Go.Proofs.Tryz.f161, a161, Go.Proofs.Tryz.func161, e161⟩
theorem e162 : elabF PG Go.Proofs.Tryz.f162 a162 true = some g162 := by kernel_rfl
theorem o162 (B : Nat) : OKE PG B 162 (.code g162) := ⟨Go.Proofs.Tryz.f162, a162, Go.Proofs.Tryz.func162, e162⟩
theorem e163 : elabF PG Go.Proofs.Tryz.f163 a163 true = some g163 := by kernel_rfl
theorem o163 (B : Nat) : OKE PG B 163 (.code g163) := ⟨Go.Proofs.Tryz.f163, a163, Go.Proofs.Tryz.func163, e163⟩
theorem e178 : elabF PG Go.Proofs.Tryz.f178 a178 true = some g178 := by kernel_rfl
theorem o178 (B : Nat) : OKE PG B 178 (.code g178) := ⟨Go.Proofs.Tryz.f178, a178, Go.Proofs.Tryz.func178, e178⟩
theorem e179 : elabF PG Go.Proofs.Tryz.f179 a179 false = some g179 := by kernel_rfl
theorem o179 (B : Nat) : OKE PG B 179 (.code g179) := ⟨Go.Proofs.Tryz.f179, a179, Go.Proofs.Tryz.func179, e179⟩
theorem e180 : elabF PG Go.Proofs.Tryz.f180 a180 false = some g180 := by kernel_rfl
theorem o180 (B : Nat) : OKE PG B 180 (.code g180) := ⟨Go.Proofs.Tryz.f180, a180, Go.Proofs.Tryz.func180, e180⟩
theorem e181 : elabF PG Go.Proofs.Tryz.f181 a181 false = some g181 := by kernel_rfl
theorem o181 (B : Nat) : OKE PG B 181 (.code g181) := ⟨Go.Proofs.Tryz.f181, a181, Go.Proofs.Tryz.func181, e181⟩
theorem e182 : elabF PG Go.Proofs.Tryz.f182 a182 true = some g182 := by kernel_rfl
theorem o182 (B : Nat) : OKE PG B 182 (.code g182) := ⟨Go.Proofs.Tryz.f182, a182, Go.Proofs.Tryz.func182, e182⟩
theorem e183 : elabF PG Go.Proofs.Tryz.f183 a183 true = some g183 := by kernel_rfl
theorem o183 (B : Nat) : OKE PG B 183 (.code g183) := ⟨Go.Proofs.Tryz.f183, a183, Go.Proofs.Tryz.func183, e183⟩
theorem e188 : elabF PG Go.Proofs.Tryz.f188 a188 true = some g188 := by kernel_rfl
theorem o188 (B : Nat) : OKE PG B 188 (.code g188) := ⟨Go.Proofs.Tryz.f188, a188, Go.Proofs.Tryz.func188, e188⟩
theorem e189 : elabF PG Go.Proofs.Tryz.f189 a189 false = some g189 := by kernel_rfl
theorem o189 (B : Nat) : OKE PG B 189 (.code g189) := ⟨Go.Proofs.Tryz.f189, a189, Go.Proofs.Tryz.func189, e189⟩
theorem e190 : elabF PG Go.Proofs.Tryz.f190 a190 false = some g190 := by kernel_rfl
theorem o190 (B : Nat) : OKE PG B 190 (.code g190) := ⟨Go.Proofs.Tryz.f190, a190, Go.Proofs.Tryz.func190, e190⟩
theorem e191 : elabF PG Go.Proofs.Tryz.f191 a191 true = some g191 := by kernel_rfl
theorem o191 (B : Nat) : OKE PG B 191 (.code g191) := ⟨Go.Proofs.Tryz.f191, a191, Go.Proofs.Tryz.func191, e191⟩
theorem e195 : elabF PG Go.Proofs.Tryz.f195 a195 true = some g195 := by kernel_rfl
theorem o195 (B : Nat) : OKE PG B 195 (.code g195) := ⟨Go.Proofs.Tryz.f195, a195, Go.Proofs.Tryz.func195, e195⟩
theorem e196 : elabF PG Go.Proofs.Tryz.f196 a196 true = some g196 := by kernel_rfl
theorem o196 (B : Nat) : OKE PG B 196 (.code g196) := ⟨Go.Proofs.Tryz.f196, a196, Go.Proofs.Tryz.func196, e196⟩
theorem e197 : elabF PG Go.Proofs.Tryz.f197 a197 true = some g197 := by kernel_rfl
theorem o197 (B : Nat) : OKE PG B 197 (.code g197) := ⟨Go.Proofs.Tryz.f197, a197, Go.Proofs.Tryz.func197, e197⟩
theorem e202 : elabF PG Go.Proofs.Tryz.f202 a202 true = some g202 := by kernel_rfl
theorem o202 (B : Nat) : OKE PG B 202 (.code g202) := ⟨Go.Proofs.Tryz.f202, a202, Go.Proofs.Tryz.func202, e202⟩
theorem e203 : elabF PG Go.Proofs.Tryz.f203 a203 true = some g203 := by kernel_rfl
theorem o203 (B : Nat) : OKE PG B 203 (.code g203) := ⟨Go.Proofs.Tryz.f203, a203, Go.Proofs.Tryz.func203, e203⟩
theorem e204 : elabF PG Go.Proofs.Tryz.f204 a204 true = some g204 := by kernel_rfl
theorem o204 (B : Nat) : OKE PG B 204 (.code g204) := ⟨Go.Proofs.Tryz.f204, a204, Go.Proofs.Tryz.func204, e204⟩
theorem e205 : elabF PG Go.Proofs.Tryz.f205 a205 true = some g205 := by kernel_rfl
theorem o205 (B : Nat) : OKE PG B 205 (.code g205) := ⟨Go.Proofs.Tryz.f205, a205, Go.Proofs.Tryz.func205, e205⟩
theorem e206 : elabF PG Go.Proofs.Tryz.f206 a206 true = some g206 := by kernel_rfl
theorem o206 (B : Nat) : OKE PG B 206 (.code g206) := ⟨Go.Proofs.Tryz.f206, a206, Go.Proofs.Tryz.func206, e206⟩
theorem e207 : elabF PG Go.Proofs.Tryz.f207 a207 true = some g207 := by kernel_rfl
theorem o207 (B : Nat) : OKE PG B 207 (.code g207) := ⟨Go.Proofs.Tryz.f207, a207, Go.Proofs.Tryz.func207, e207⟩
theorem e208 : elabF PG Go.Proofs.Tryz.f208 a208 true = some g208 := by kernel_rfl
theorem o208 (B : Nat) : OKE PG B 208 (.code g208) := ⟨Go.Proofs.Tryz.f208, a208, Go.Proofs.Tryz.func208, e208⟩
theorem e209 : elabF PG Go.Proofs.Tryz.f209 a209 true = some g209 := by kernel_rfl
theorem o209 (B : Nat) : OKE PG B 209 (.code g209) := ⟨Go.Proofs.Tryz.f209, a209, Go.Proofs.Tryz.func209, e209⟩
theorem e213 : elabF PG Go.Proofs.Tryz.f213 a213 true = some g213 := by kernel_rfl
theorem o213 (B : Nat) : OKE PG B 213 (.code g213) := ⟨Go.Proofs.Tryz.f213, a213, Go.Proofs.Tryz.func213, e213⟩
theorem e214 : elabF PG Go.Proofs.Tryz.f214 a214 false = some g214 := by kernel_rfl
theorem o214 (B : Nat) : OKE PG B 214 (.code g214) := ⟨Go.Proofs.Tryz.f214, a214, Go.Proofs.Tryz.func214, e214⟩
theorem e215 : elabF PG Go.Proofs.Tryz.f215 a215 true = some g215 := by kernel_rfl
theorem o215 (B : Nat) : OKE PG B 215 (.code g215) := ⟨Go.Proofs.Tryz.f215, a215, Go.Proofs.Tryz.func215, e215⟩
theorem e221 : elabF PG Go.Proofs.Tryz.f221 a221 true = some g221 := by kernel_rfl
theorem o221 (B : Nat) : OKE PG B 221 (.code g221) := ⟨Go.Proofs.Tryz.f221, a221, Go.Proofs.Tryz.func221, e221⟩
theorem e222 : elabF PG Go.Proofs.Tryz.f222 a222 true = some g222 := by kernel_rfl
theorem o222 (B : Nat) : OKE PG B 222 (.code g222) := ⟨Go.Proofs.Tryz.f222, a222, Go.Proofs.Tryz.func222, e222⟩
theorem e227 : elabF PG Go.Proofs.Tryz.f227 a227 true = some g227 := by kernel_rfl
theorem o227 (B : Nat) : OKE PG B 227 (.code g227) := ⟨Go.Proofs.Tryz.f227, a227, Go.Proofs.Tryz.func227, e227⟩
theorem e228 : elabF PG Go.Proofs.Tryz.f228 a228 true = some g228 := by kernel_rfl
theorem o228 (B : Nat) : OKE PG B 228 (.code g228) := ⟨Go.Proofs.Tryz.f228, a228, Go.Proofs.Tryz.func228, e228⟩
theorem e229 : elabF PG Go.Proofs.Tryz.f229 a229 true = some g229 := by kernel_rfl
theorem o229 (B : Nat) : OKE PG B 229 (.code g229) := ⟨Go.Proofs.Tryz.f229, a229, Go.Proofs.Tryz.func229, e229⟩
theorem e230 : elabF PG Go.Proofs.Tryz.f230 a230 true = some g230 := by kernel_rfl
theorem o230 (B : Nat) : OKE PG B 230 (.code g230) := ⟨Go.Proofs.Tryz.f230, a230, Go.Proofs.Tryz.func230, e230⟩
theorem e231 : elabF PG Go.Proofs.Tryz.f231 a231 true = some g231 := by kernel_rfl
theorem o231 (B : Nat) : OKE PG B 231 (.code g231) := ⟨Go.Proofs.Tryz.f231, a231, Go.Proofs.Tryz.func231, e231⟩
theorem e232 : elabF PG Go.Proofs.Tryz.f232 a232 false = some g232 := by kernel_rfl
theorem o232 (B : Nat) : OKE PG B 232 (.code g232) := ⟨Go.Proofs.Tryz.f232, a232, Go.Proofs.Tryz.func232, e232⟩
theorem e233 : elabF PG Go.Proofs.Tryz.f233 a233 true = some g233 := by kernel_rfl
theorem o233 (B : Nat) : OKE PG B 233 (.code g233) := ⟨Go.Proofs.Tryz.f233, a233, Go.Proofs.Tryz.func233, e233⟩
theorem e234 : elabF PG Go.Proofs.Tryz.f234 a234 true = some g234 := by kernel_rfl
theorem o234 (B : Nat) : OKE PG B 234 (.code g234) := ⟨Go.Proofs.Tryz.f234, a234, Go.Proofs.Tryz.func234, e234⟩
theorem e235 : elabF PG Go.Proofs.Tryz.f235 a235 true = some g235 := by kernel_rfl
theorem o235 (B : Nat) : OKE PG B 235 (.code g235) := ⟨Go.Proofs.Tryz.f235, a235, Go.Proofs.Tryz.func235, e235⟩
theorem e236 : elabF PG Go.Proofs.Tryz.f236 a236 true = some g236 := by kernel_rfl
theorem o236 (B : Nat) : OKE PG B 236 (.code g236) := ⟨Go.Proofs.Tryz.f236, a236, Go.Proofs.Tryz.func236, e236⟩
theorem e237 : elabF PG Go.Proofs.Tryz.f237 a237 true = some g237 := by kernel_rfl
theorem o237 (B : Nat) : OKE PG B 237 (.code g237) := ⟨Go.Proofs.Tryz.f237, a237, Go.Proofs.Tryz.func237, e237⟩
theorem e238 : elabF PG Go.Proofs.Tryz.f238 a238 true = some g238 := by kernel_rfl
theorem o238 (B : Nat) : OKE PG B 238 (.code g238) := ⟨Go.Proofs.Tryz.f238, a238, Go.Proofs.Tryz.func238, e238⟩
theorem e245 : elabF PG Go.Proofs.Tryz.f245 a245 true = some g245 := by kernel_rfl
theorem o245 (B : Nat) : OKE PG B 245 (.code g245) := ⟨Go.Proofs.Tryz.f245, a245, Go.Proofs.Tryz.func245, e245⟩
theorem e246 : elabF PG Go.Proofs.Tryz.f246 a246 true = some g246 := by kernel_rfl
theorem o246 (B : Nat) : OKE PG B 246 (.code g246) := ⟨Go.Proofs.Tryz.f246, a246, Go.Proofs.Tryz.func246, e246⟩
theorem e247 : elabF PG Go.Proofs.Tryz.f247 a247 true = some g247 := by kernel_rfl
theorem o247 (B : Nat) : OKE PG B 247 (.code g247) := ⟨Go.Proofs.Tryz.f247, a247, Go.Proofs.Tryz.func247, e247⟩
theorem e248 : elabF PG Go.Proofs.Tryz.f248 a248 true = some g248 := by kernel_rfl
theorem o248 (B : Nat) : OKE PG B 248 (.code g248) := ⟨Go.Proofs.Tryz.f248, a248, Go.Proofs.Tryz.func248, e248⟩
theorem e249 : elabF PG Go.Proofs.Tryz.f249 a249 true = some g249 := by kernel_rfl
theorem o249 (B : Nat) : OKE PG B 249 (.code g249) := ⟨Go.Proofs.Tryz.f249, a249, Go.Proofs.Tryz.func249, e249⟩
theorem e250 : elabF PG Go.Proofs.Tryz.f250 a250 true = some g250 := by kernel_rfl
theorem o250 (B : Nat) : OKE PG B 250 (.code g250) := ⟨Go.Proofs.Tryz.f250, a250, Go.Proofs.Tryz.func250, e250⟩
theorem e251 : elabF PG Go.Proofs.Tryz.f251 a251 true = some g251 := by kernel_rfl
theorem o251 (B : Nat) : OKE PG B 251 (.code g251) := ⟨Go.Proofs.Tryz.f251, a251, Go.Proofs.Tryz.func251, e251⟩
theorem e252 : elabF PG Go.Proofs.Tryz.f252 a252 false = some g252 := by kernel_rfl
theorem o252 (B : Nat) : OKE PG B 252 (.code g252) := ⟨Go.Proofs.Tryz.f252, a252, Go.Proofs.Tryz.func252, e252⟩
theorem e253 : elabF PG Go.Proofs.Tryz.f253 a253 true = some g253 := by kernel_rfl
theorem o253 (B : Nat) : OKE PG B 253 (.code g253) := ⟨Go.Proofs.Tryz.f253, a253, Go.Proofs.Tryz.func253, e253⟩
theorem e254 : elabF PG Go.Proofs.Tryz.f254 a254 true = some g254 := by kernel_rfl
theorem o254 (B : Nat) : OKE PG B 254 (.code g254) := ⟨Go.Proofs.Tryz.f254, a254, Go.Proofs.Tryz.func254, e254⟩
theorem e256 : elabF PG Go.Proofs.Tryz.f256 a256 true = some g256 := by kernel_rfl
theorem o256 (B : Nat) : OKE PG B 256 (.code g256) := ⟨Go.Proofs.Tryz.f256, a256, Go.Proofs.Tryz.func256, e256⟩
theorem e257 : elabF PG Go.Proofs.Tryz.f257 a257 true = some g257 := by kernel_rfl
theorem o257 (B : Nat) : OKE PG B 257 (.code g257) := ⟨Go.Proofs.Tryz.f257, a257, Go.Proofs.Tryz.func257, e257⟩
theorem e258 : elabF PG Go.Proofs.Tryz.f258 a258 true = some g258 := by kernel_rfl
theorem o258 (B : Nat) : OKE PG B 258 (.code g258) := ⟨Go.Proofs.Tryz.f258, a258, Go.Proofs.Tryz.func258, e258⟩
theorem e261 : elabF PG Go.Proofs.Tryz.f261 a261 true = some g261 := by kernel_rfl
theorem o261 (B : Nat) : OKE PG B 261 (.code g261) := ⟨Go.Proofs.Tryz.f261, a261, Go.Proofs.Tryz.func261, e261⟩
theorem e262 : elabF PG Go.Proofs.Tryz.f262 a262 true = some g262 := by kernel_rfl
theorem o262 (B : Nat) : OKE PG B 262 (.code g262) := ⟨Go.Proofs.Tryz.f262, a262, Go.Proofs.Tryz.func262, e262⟩
theorem e263 : elabF PG Go.Proofs.Tryz.f263 a263 true = some g263 := by kernel_rfl
theorem o263 (B : Nat) : OKE PG B 263 (.code g263) := ⟨Go.Proofs.Tryz.f263, a263, Go.Proofs.Tryz.func263, e263⟩
theorem e264 : elabF PG Go.Proofs.Tryz.f264 a264 true = some g264 := by kernel_rfl
theorem o264 (B : Nat) : OKE PG B 264 (.code g264) := ⟨Go.Proofs.Tryz.f264, a264, Go.Proofs.Tryz.func264, e264⟩
theorem e265 : elabF PG Go.Proofs.Tryz.f265 a265 false = some g265 := by kernel_rfl
theorem o265 (B : Nat) : OKE PG B 265 (.code g265) := ⟨Go.Proofs.Tryz.f265, a265, Go.Proofs.Tryz.func265, e265⟩
theorem e266 : elabF PG Go.Proofs.Tryz.f266 a266 true = some g266 := by kernel_rfl
theorem o266 (B : Nat) : OKE PG B 266 (.code g266) := ⟨Go.Proofs.Tryz.f266, a266, Go.Proofs.Tryz.func266, e266⟩
theorem e267 : elabF PG Go.Proofs.Tryz.f267 a267 true = some g267 := by kernel_rfl
theorem o267 (B : Nat) : OKE PG B 267 (.code g267) := ⟨Go.Proofs.Tryz.f267, a267, Go.Proofs.Tryz.func267, e267⟩
theorem e269 : elabF PG Go.Proofs.Tryz.f269 a269 false = some g269 := by kernel_rfl
theorem o269 (B : Nat) : OKE PG B 269 (.code g269) := ⟨Go.Proofs.Tryz.f269, a269, Go.Proofs.Tryz.func269, e269⟩
theorem e271 : elabF PG Go.Proofs.Tryz.f271 a271 false = some g271 := by kernel_rfl
theorem o271 (B : Nat) : OKE PG B 271 (.code g271) := ⟨Go.Proofs.Tryz.f271, a271, Go.Proofs.Tryz.func271, e271⟩
theorem e272 : elabF PG Go.Proofs.Tryz.f272 a272 true = some g272 := by kernel_rfl
theorem o272 (B : Nat) : OKE PG B 272 (.code g272) := ⟨Go.Proofs.Tryz.f272, a272, Go.Proofs.Tryz.func272, e272⟩
theorem e274 : elabF PG Go.Proofs.Tryz.f274 a274 true = some g274 := by kernel_rfl
theorem o274 (B : Nat) : OKE PG B 274 (.code g274) := ⟨Go.Proofs.Tryz.f274, a274, Go.Proofs.Tryz.func274, e274⟩
theorem e277 : elabF PG Go.Proofs.Tryz.f277 a277 true = some g277 := by kernel_rfl
theorem o277 (B : Nat) : OKE PG B 277 (.code g277) := ⟨Go.Proofs.Tryz.f277, a277, Go.Proofs.Tryz.func277, e277⟩
theorem e279 : elabF PG Go.Proofs.Tryz.f279 a279 true = some g279 := by kernel_rfl
theorem o279 (B : Nat) : OKE PG B 279 (.code g279) := ⟨Go.Proofs.Tryz.f279, a279, Go.Proofs.Tryz.func279, e279⟩
theorem e280 : elabF PG Go.Proofs.Tryz.f280 a280 true = some g280 := by kernel_rfl
theorem o280 (B : Nat) : OKE PG B 280 (.code g280) := ⟨Go.Proofs.Tryz.f280, a280, Go.Proofs.Tryz.func280, e280⟩
theorem e281 : elabF PG Go.Proofs.Tryz.f281 a281 false = some g281 := by kernel_rfl
theorem o281 (B : Nat) : OKE PG B 281 (.code g281) := ⟨Go.Proofs.Tryz.f281, a281, Go.Proofs.Tryz.func281, e281⟩
theorem e282 : elabF PG Go.Proofs.Tryz.f282 a282 false = some g282 := by kernel_rfl
theorem o282 (B : Nat) : OKE PG B 282 (.code g282) := ⟨Go.Proofs.Tryz.f282, a282, Go.Proofs.Tryz.func282, e282⟩
theorem e288 : elabF PG Go.Proofs.Tryz.f288 a288 false = some g288 := by kernel_rfl
theorem o288 (B : Nat) : OKE PG B 288 (.code g288) := ⟨Go.Proofs.Tryz.f288, a288, Go.Proofs.Tryz.func288, e288⟩
theorem k21_24 {B : Nat}  {f : Nat} {e : Entry} (h : t21_24 f = some e) : OKE PG B f e := brE h (fun h => leafE (o21 B) h) (fun h => leafE (o24 B) h)
theorem k5_24 {B : Nat}  {f : Nat} {e : Entry} (h : t5_24 f = some e) : OKE PG B f e := brE h (fun h => leafE (o5 B) h) (fun h => k21_24  h)
theorem k25_36 {B : Nat}  {f : Nat} {e : Entry} (h : t25_36 f = some e) : OKE PG B f e := brE h (fun h => leafE (o25 B) h) (fun h => leafE (o36 B) h)
theorem k40_41 {B : Nat}  {f : Nat} {e : Entry} (h : t40_41 f = some e) : OKE PG B f e := brE h (fun h => leafE (o40 B) h) (fun h => leafE (o41 B) h)
theorem k25_41 {B : Nat}  {f : Nat} {e : Entry} (h : t25_41 f = some e) : OKE PG B f e := brE h (fun h => k25_36  h) (fun h => k40_41  h)
theorem k5_41 {B : Nat}  {f : Nat} {e : Entry} (h : t5_41 f = some e) : OKE PG B f e := brE h (fun h => k5_24  h) (fun h => k25_41  h)
theorem k42_46 {B : Nat}  {f : Nat} {e : Entry} (h : t42_46 f = some e) : OKE PG B f e := brE h (fun h => leafE (o42 B) h) (fun h => leafE (o46 B) h)
theorem k48_76 {B : Nat}  {f : Nat} {e : Entry} (h : t48_76 f = some e) : OKE PG B f e := brE h (fun h => leafE (o48 B) h) (fun h => leafE (o76 B) h)
theorem k42_76 {B : Nat}  {f : Nat} {e : Entry} (h : t42_76 f = some e) : OKE PG B f e := brE h (fun h => k42_46  h) (fun h => k48_76  h)
theorem k77_78 {B : Nat}  {f : Nat} {e : Entry} (h : t77_78 f = some e) : OKE PG B f e := brE h (fun h => leafE (o77 B) h) (fun h => leafE (o78 B) h)
theorem k79_80 {B : Nat}  {f : Nat} {e : Entry} (h : t79_80 f = some e) : OKE PG B f e := brE h (fun h => leafE (o79 B) h) (fun h => leafE (o80 B) h)
theorem k77_80 {B : Nat}  {f : Nat} {e : Entry} (h : t77_80 f = some e) : OKE PG B f e := brE h (fun h => k77_78  h) (fun h => k79_80  h)
theorem k42_80 {B : Nat}  {f : Nat} {e : Entry} (h : t42_80 f = some e) : OKE PG B f e := brE h (fun h => k42_76  h) (fun h => k77_80  h)
theorem k5_80 {B : Nat}  {f : Nat} {e : Entry} (h : t5_80 f = some e) : OKE PG B f e := brE h (fun h => k5_41  h) (fun h => k42_80  h)
theorem k85_86 {B : Nat}  {f : Nat} {e : Entry} (h : t85_86 f = some e) : OKE PG B f e := brE h (fun h => leafE (o85 B) h) (fun h => leafE (o86 B) h)
theorem k87_88 {B : Nat}  {f : Nat} {e : Entry} (h : t87_88 f = some e) : OKE PG B f e := brE h (fun h => leafE (o87 B) h) (fun h => leafE (o88 B) h)
theorem k85_88 {B : Nat}  {f : Nat} {e : Entry} (h : t85_88 f = some e) : OKE PG B f e := brE h (fun h => k85_86  h) (fun h => k87_88  h)
theorem k89_90 {B : Nat}  {f : Nat} {e : Entry} (h : t89_90 f = some e) : OKE PG B f e := brE h (fun h => leafE (o89 B) h) (fun h => leafE (o90 B) h)
theorem k91_92 {B : Nat}  {f : Nat} {e : Entry} (h : t91_92 f = some e) : OKE PG B f e := brE h (fun h => leafE (o91 B) h) (fun h => leafE (o92 B) h)
theorem k89_92 {B : Nat}  {f : Nat} {e : Entry} (h : t89_92 f = some e) : OKE PG B f e := brE h (fun h => k89_90  h) (fun h => k91_92  h)
theorem k85_92 {B : Nat}  {f : Nat} {e : Entry} (h : t85_92 f = some e) : OKE PG B f e := brE h (fun h => k85_88  h) (fun h => k89_92  h)
theorem k93_95 {B : Nat}  {f : Nat} {e : Entry} (h : t93_95 f = some e) : OKE PG B f e := brE h (fun h => leafE (o93 B) h) (fun h => leafE (o95 B) h)
theorem k96_97 {B : Nat}  {f : Nat} {e : Entry} (h : t96_97 f = some e) : OKE PG B f e := brE h (fun h => leafE (o96 B) h) (fun h => leafE (o97 B) h)
theorem k93_97 {B : Nat}  {f : Nat} {e : Entry} (h : t93_97 f = some e) : OKE PG B f e := brE h (fun h => k93_95  h) (fun h => k96_97  h)
theorem k99_100 {B : Nat}  {f : Nat} {e : Entry} (h : t99_100 f = some e) : OKE PG B f e := brE h (fun h => leafE (o99 B) h) (fun h => leafE (o100 B) h)
theorem k101_102 {B : Nat}  {f : Nat} {e : Entry} (h : t101_102 f = some e) : OKE PG B f e := brE h (fun h => leafE (o101 B) h) (fun h => leafE (o102 B) h)
theorem k99_102 {B : Nat}  {f : Nat} {e : Entry} (h : t99_102 f = some e) : OKE PG B f e := brE h (fun h => k99_100  h) (fun h => k101_102  h)
theorem k93_102 {B : Nat}  {f : Nat} {e : Entry} (h : t93_102 f = some e) : OKE PG B f e := brE h (fun h => k93_97  h) (fun h => k99_102  h)
theorem k85_102 {B : Nat}  {f : Nat} {e : Entry} (h : t85_102 f = some e) : OKE PG B f e := brE h (fun h => k85_92  h) (fun h => k93_102  h)
theorem k5_102 {B : Nat}  {f : Nat} {e : Entry} (h : t5_102 f = some e) : OKE PG B f e := brE h (fun h => k5_80  h) (fun h => k85_102  h)
theorem k112_131 {B : Nat}  {f : Nat} {e : Entry} (h : t112_131 f = some e) : OKE PG B f e := brE h (fun h => leafE (o112 B) h) (fun h => leafE (o131 B) h)
theorem k132_133 {B : Nat}  {f : Nat} {e : Entry} (h : t132_133 f = some e) : OKE PG B f e := brE h (fun h => leafE (o132 B) h) (fun h => leafE (o133 B) h)
theorem k112_133 {B : Nat}  {f : Nat} {e : Entry} (h : t112_133 f = some e) : OKE PG B f e := brE h (fun h => k112_131  h) (fun h => k132_133  h)
theorem k134_135 {B : Nat}  {f : Nat} {e : Entry} (h : t134_135 f = some e) : OKE PG B f e := brE h (fun h => leafE (o134 B) h) (fun h => leafE (o135 B) h)
theorem k136_137 {B : Nat}  {f : Nat} {e : Entry} (h : t136_137 f = some e) : OKE PG B f e := brE h (fun h => leafE (o136 B) h) (fun h => leafE (o137 B) h)
theorem k134_137 {B : Nat}  {f : Nat} {e : Entry} (h : t134_137 f = some e) : OKE PG B f e := brE h (fun h => k134_135  h) (fun h => k136_137  h)
theorem k112_137 {B : Nat}  {f : Nat} {e : Entry} (h : t112_137 f = some e) : OKE PG B f e := brE h (fun h => k112_133  h) (fun h => k134_137  h)
theorem k138_139 {B : Nat}  {f : Nat} {e : Entry} (h : t138_139 f = some e) : OKE PG B f e := brE h (fun h => leafE (o138 B) h) (fun h => leafE (o139 B) h)
theorem k141_142 {B : Nat}  {f : Nat} {e : Entry} (h : t141_142 f = some e) : OKE PG B f e := brE h (fun h => leafE (o141 B) h) (fun h => leafE (o142 B) h)
theorem k138_142 {B : Nat}  {f : Nat} {e : Entry} (h : t138_142 f = some e) : OKE PG B f e := brE h (fun h => k138_139  h) (fun h => k141_142  h)
theorem k143_144 {B : Nat}  {f : Nat} {e : Entry} (h : t143_144 f = some e) : OKE PG B f e := brE h (fun h => leafE (o143 B) h) (fun h => leafE (o144 B) h)
theorem k145_146 {B : Nat}  {f : Nat} {e : Entry} (h : t145_146 f = some e) : OKE PG B f e := brE h (fun h => leafE (o145 B) h) (fun h => leafE (o146 B) h)
theorem k143_146 {B : Nat}  {f : Nat} {e : Entry} (h : t143_146 f = some e) : OKE PG B f e := brE h (fun h => k143_144  h) (fun h => k145_146  h)
theorem k138_146 {B : Nat}  {f : Nat} {e : Entry} (h : t138_146 f = some e) : OKE PG B f e := brE h (fun h => k138_142  h) (fun h => k143_146  h)
theorem k112_146 {B : Nat}  {f : Nat} {e : Entry} (h : t112_146 f = some e) : OKE PG B f e := brE h (fun h => k112_137  h) (fun h => k138_146  h)
theorem k147_148 {B : Nat}  {f : Nat} {e : Entry} (h : t147_148 f = some e) : OKE PG B f e := brE h (fun h => leafE (o147 B) h) (fun h => leafE (o148 B) h)
theorem k149_150 {B : Nat}  {f : Nat} {e : Entry} (h : t149_150 f = some e) : OKE PG B f e := brE h (fun h => leafE (o149 B) h) (fun h => leafE (o150 B) h)
theorem k147_150 {B : Nat}  {f : Nat} {e : Entry} (h : t147_150 f = some e) : OKE PG B f e := brE h (fun h => k147_148  h) (fun h => k149_150  h)
theorem k151_152 {B : Nat}  {f : Nat} {e : Entry} (h : t151_152 f = some e) : OKE PG B f e := brE h (fun h => leafE (o151 B) h) (fun h => leafE (o152 B) h)
theorem k153_160 {B : Nat}  {f : Nat} {e : Entry} (h : t153_160 f = some e) : OKE PG B f e := brE h (fun h => leafE (o153 B) h) (fun h => leafE (o160 B) h)
theorem k151_160 {B : Nat}  {f : Nat} {e : Entry} (h : t151_160 f = some e) : OKE PG B f e := brE h (fun h => k151_152  h) (fun h => k153_160  h)
theorem k147_160 {B : Nat}  {f : Nat} {e : Entry} (h : t147_160 f = some e) : OKE PG B f e := brE h (fun h => k147_150  h) (fun h => k151_160  h)
theorem k161_162 {B : Nat}  {f : Nat} {e : Entry} (h : t161_162 f = some e) : OKE PG B f e := brE h (fun h => leafE (o161 B) h) (fun h => leafE (o162 B) h)
theorem k163_178 {B : Nat}  {f : Nat} {e : Entry} (h : t163_178 f = some e) : OKE PG B f e := brE h (fun h => leafE (o163 B) h) (fun h => leafE (o178 B) h)
theorem k161_178 {B : Nat}  {f : Nat} {e : Entry} (h : t161_178 f = some e) : OKE PG B f e := brE h (fun h => k161_162  h) (fun h => k163_178  h)
theorem k179_180 {B : Nat}  {f : Nat} {e : Entry} (h : t179_180 f = some e) : OKE PG B f e := brE h (fun h => leafE (o179 B) h) (fun h => leafE (o180 B) h)
theorem k181_182 {B : Nat}  {f : Nat} {e : Entry} (h : t181_182 f = some e) : OKE PG B f e := brE h (fun h => leafE (o181 B) h) (fun h => leafE (o182 B) h)
theorem k179_182 {B : Nat}  {f : Nat} {e : Entry} (h : t179_182 f = some e) : OKE PG B f e := brE h (fun h => k179_180  h) (fun h => k181_182  h)
theorem k161_182 {B : Nat}  {f : Nat} {e : Entry} (h : t161_182 f = some e) : OKE PG B f e := brE h (fun h => k161_178  h) (fun h => k179_182  h)
theorem k147_182 {B : Nat}  {f : Nat} {e : Entry} (h : t147_182 f = some e) : OKE PG B f e := brE h (fun h => k147_160  h) (fun h => k161_182  h)
theorem k112_182 {B : Nat}  {f : Nat} {e : Entry} (h : t112_182 f = some e) : OKE PG B f e := brE h (fun h => k112_146  h) (fun h => k147_182  h)
theorem k5_182 {B : Nat}  {f : Nat} {e : Entry} (h : t5_182 f = some e) : OKE PG B f e := brE h (fun h => k5_102  h) (fun h => k112_182  h)
theorem k188_189 {B : Nat}  {f : Nat} {e : Entry} (h : t188_189 f = some e) : OKE PG B f e := brE h (fun h => leafE (o188 B) h) (fun h => leafE (o189 B) h)
theorem k183_189 {B : Nat}  {f : Nat} {e : Entry} (h : t183_189 f = some e) : OKE PG B f e := brE h (fun h => leafE (o183 B) h) (fun h => k188_189  h)
theorem k190_191 {B : Nat}  {f : Nat} {e : Entry} (h : t190_191 f = some e) : OKE PG B f e := brE h (fun h => leafE (o190 B) h) (fun h => leafE (o191 B) h)
theorem k195_196 {B : Nat}  {f : Nat} {e : Entry} (h : t195_196 f = some e) : OKE PG B f e := brE h (fun h => leafE (o195 B) h) (fun h => leafE (o196 B) h)
theorem k190_196 {B : Nat}  {f : Nat} {e : Entry} (h : t190_196 f = some e) : OKE PG B f e := brE h (fun h => k190_191  h) (fun h => k195_196  h)
theorem k183_196 {B : Nat}  {f : Nat} {e : Entry} (h : t183_196 f = some e) : OKE PG B f e := brE h (fun h => k183_189  h) (fun h => k190_196  h)
theorem k197_202 {B : Nat}  {f : Nat} {e : Entry} (h : t197_202 f = some e) : OKE PG B f e := brE h (fun h => leafE (o197 B) h) (fun h => leafE (o202 B) h)
theorem k203_204 {B : Nat}  {f : Nat} {e : Entry} (h : t203_204 f = some e) : OKE PG B f e := brE h (fun h => leafE (o203 B) h) (fun h => leafE (o204 B) h)
theorem k197_204 {B : Nat}  {f : Nat} {e : Entry} (h : t197_204 f = some e) : OKE PG B f e := brE h (fun h => k197_202  h) (fun h => k203_204  h)
theorem k205_206 {B : Nat}  {f : Nat} {e : Entry} (h : t205_206 f = some e) : OKE PG B f e := brE h (fun h => leafE (o205 B) h) (fun h => leafE (o206 B) h)
theorem k207_208 {B : Nat}  {f : Nat} {e : Entry} (h : t207_208 f = some e) : OKE PG B f e := brE h (fun h => leafE (o207 B) h) (fun h => leafE (o208 B) h)
theorem k205_208 {B : Nat}  {f : Nat} {e : Entry} (h : t205_208 f = some e) : OKE PG B f e := brE h (fun h => k205_206  h) (fun h => k207_208  h)
theorem k197_208 {B : Nat}  {f : Nat} {e : Entry} (h : t197_208 f = some e) : OKE PG B f e := brE h (fun h => k197_204  h) (fun h => k205_208  h)
theorem k183_208 {B : Nat}  {f : Nat} {e : Entry} (h : t183_208 f = some e) : OKE PG B f e := brE h (fun h => k183_196  h) (fun h => k197_208  h)
theorem k209_213 {B : Nat}  {f : Nat} {e : Entry} (h : t209_213 f = some e) : OKE PG B f e := brE h (fun h => leafE (o209 B) h) (fun h => leafE (o213 B) h)
theorem k214_215 {B : Nat}  {f : Nat} {e : Entry} (h : t214_215 f = some e) : OKE PG B f e := brE h (fun h => leafE (o214 B) h) (fun h => leafE (o215 B) h)
theorem k209_215 {B : Nat}  {f : Nat} {e : Entry} (h : t209_215 f = some e) : OKE PG B f e := brE h (fun h => k209_213  h) (fun h => k214_215  h)
theorem k221_222 {B : Nat}  {f : Nat} {e : Entry} (h : t221_222 f = some e) : OKE PG B f e := brE h (fun h => leafE (o221 B) h) (fun h => leafE (o222 B) h)
theorem k227_228 {B : Nat}  {f : Nat} {e : Entry} (h : t227_228 f = some e) : OKE PG B f e := brE h (fun h => leafE (o227 B) h) (fun h => leafE (o228 B) h)
theorem k221_228 {B : Nat}  {f : Nat} {e : Entry} (h : t221_228 f = some e) : OKE PG B f e := brE h (fun h => k221_222  h) (fun h => k227_228  h)
theorem k209_228 {B : Nat}  {f : Nat} {e : Entry} (h : t209_228 f = some e) : OKE PG B f e := brE h (fun h => k209_215  h) (fun h => k221_228  h)
theorem k229_230 {B : Nat}  {f : Nat} {e : Entry} (h : t229_230 f = some e) : OKE PG B f e := brE h (fun h => leafE (o229 B) h) (fun h => leafE (o230 B) h)
theorem k231_232 {B : Nat}  {f : Nat} {e : Entry} (h : t231_232 f = some e) : OKE PG B f e := brE h (fun h => leafE (o231 B) h) (fun h => leafE (o232 B) h)
theorem k229_232 {B : Nat}  {f : Nat} {e : Entry} (h : t229_232 f = some e) : OKE PG B f e := brE h (fun h => k229_230  h) (fun h => k231_232  h)
theorem k233_234 {B : Nat}  {f : Nat} {e : Entry} (h : t233_234 f = some e) : OKE PG B f e := brE h (fun h => leafE (o233 B) h) (fun h => leafE (o234 B) h)
theorem k235_236 {B : Nat}  {f : Nat} {e : Entry} (h : t235_236 f = some e) : OKE PG B f e := brE h (fun h => leafE (o235 B) h) (fun h => leafE (o236 B) h)
theorem k233_236 {B : Nat}  {f : Nat} {e : Entry} (h : t233_236 f = some e) : OKE PG B f e := brE h (fun h => k233_234  h) (fun h => k235_236  h)
theorem k229_236 {B : Nat}  {f : Nat} {e : Entry} (h : t229_236 f = some e) : OKE PG B f e := brE h (fun h => k229_232  h) (fun h => k233_236  h)
theorem k209_236 {B : Nat}  {f : Nat} {e : Entry} (h : t209_236 f = some e) : OKE PG B f e := brE h (fun h => k209_228  h) (fun h => k229_236  h)
theorem k183_236 {B : Nat}  {f : Nat} {e : Entry} (h : t183_236 f = some e) : OKE PG B f e := brE h (fun h => k183_208  h) (fun h => k209_236  h)
theorem k237_238 {B : Nat}  {f : Nat} {e : Entry} (h : t237_238 f = some e) : OKE PG B f e := brE h (fun h => leafE (o237 B) h) (fun h => leafE (o238 B) h)
theorem k245_246 {B : Nat}  {f : Nat} {e : Entry} (h : t245_246 f = some e) : OKE PG B f e := brE h (fun h => leafE (o245 B) h) (fun h => leafE (o246 B) h)
theorem k237_246 {B : Nat}  {f : Nat} {e : Entry} (h : t237_246 f = some e) : OKE PG B f e := brE h (fun h => k237_238  h) (fun h => k245_246  h)
theorem k247_248 {B : Nat}  {f : Nat} {e : Entry} (h : t247_248 f = some e) : OKE PG B f e := brE h (fun h => leafE (o247 B) h) (fun h => leafE (o248 B) h)
theorem k249_250 {B : Nat}  {f : Nat} {e : Entry} (h : t249_250 f = some e) : OKE PG B f e := brE h (fun h => leafE (o249 B) h) (fun h => leafE (o250 B) h)
theorem k247_250 {B : Nat}  {f : Nat} {e : Entry} (h : t247_250 f = some e) : OKE PG B f e := brE h (fun h => k247_248  h) (fun h => k249_250  h)
theorem k237_250 {B : Nat}  {f : Nat} {e : Entry} (h : t237_250 f = some e) : OKE PG B f e := brE h (fun h => k237_246  h) (fun h => k247_250  h)
theorem k251_252 {B : Nat}  {f : Nat} {e : Entry} (h : t251_252 f = some e) : OKE PG B f e := brE h (fun h => leafE (o251 B) h) (fun h => leafE (o252 B) h)
theorem k253_254 {B : Nat}  {f : Nat} {e : Entry} (h : t253_254 f = some e) : OKE PG B f e := brE h (fun h => leafE (o253 B) h) (fun h => leafE (o254 B) h)
theorem k251_254 {B : Nat}  {f : Nat} {e : Entry} (h : t251_254 f = some e) : OKE PG B f e := brE h (fun h => k251_252  h) (fun h => k253_254  h)
theorem k256_257 {B : Nat}  {f : Nat} {e : Entry} (h : t256_257 f = some e) : OKE PG B f e := brE h (fun h => leafE (o256 B) h) (fun h => leafE (o257 B) h)
theorem k258_261 {B : Nat}  {f : Nat} {e : Entry} (h : t258_261 f = some e) : OKE PG B f e := brE h (fun h => leafE (o258 B) h) (fun h => leafE (o261 B) h)
theorem k256_261 {B : Nat}  {f : Nat} {e : Entry} (h : t256_261 f = some e) : OKE PG B f e := brE h (fun h => k256_257  h) (fun h => k258_261  h)
theorem k251_261 {B : Nat}  {f : Nat} {e : Entry} (h : t251_261 f = some e) : OKE PG B f e := brE h (fun h => k251_254  h) (fun h => k256_261  h)
theorem k237_261 {B : Nat}  {f : Nat} {e : Entry} (h : t237_261 f = some e) : OKE PG B f e := brE h (fun h => k237_250  h) (fun h => k251_261  h)
theorem k262_263 {B : Nat}  {f : Nat} {e : Entry} (h : t262_263 f = some e) : OKE PG B f e := brE h (fun h => leafE (o262 B) h) (fun h => leafE (o263 B) h)
theorem k264_265 {B : Nat}  {f : Nat} {e : Entry} (h : t264_265 f = some e) : OKE PG B f e := brE h (fun h => leafE (o264 B) h) (fun h => leafE (o265 B) h)
theorem k262_265 {B : Nat}  {f : Nat} {e : Entry} (h : t262_265 f = some e) : OKE PG B f e := brE h (fun h => k262_263  h) (fun h => k264_265  h)
theorem k266_267 {B : Nat}  {f : Nat} {e : Entry} (h : t266_267 f = some e) : OKE PG B f e := brE h (fun h => leafE (o266 B) h) (fun h => leafE (o267 B) h)
theorem k269_271 {B : Nat}  {f : Nat} {e : Entry} (h : t269_271 f = some e) : OKE PG B f e := brE h (fun h => leafE (o269 B) h) (fun h => leafE (o271 B) h)
theorem k266_271 {B : Nat}  {f : Nat} {e : Entry} (h : t266_271 f = some e) : OKE PG B f e := brE h (fun h => k266_267  h) (fun h => k269_271  h)
theorem k262_271 {B : Nat}  {f : Nat} {e : Entry} (h : t262_271 f = some e) : OKE PG B f e := brE h (fun h => k262_265  h) (fun h => k266_271  h)
theorem k272_274 {B : Nat}  {f : Nat} {e : Entry} (h : t272_274 f = some e) : OKE PG B f e := brE h (fun h => leafE (o272 B) h) (fun h => leafE (o274 B) h)
theorem k277_279 {B : Nat}  {f : Nat} {e : Entry} (h : t277_279 f = some e) : OKE PG B f e := brE h (fun h => leafE (o277 B) h) (fun h => leafE (o279 B) h)
theorem k272_279 {B : Nat}  {f : Nat} {e : Entry} (h : t272_279 f = some e) : OKE PG B f e := brE h (fun h => k272_274  h) (fun h => k277_279  h)
theorem k280_281 {B : Nat}  {f : Nat} {e : Entry} (h : t280_281 f = some e) : OKE PG B f e := brE h (fun h => leafE (o280 B) h) (fun h => leafE (o281 B) h)
theorem k282_288 {B : Nat}  {f : Nat} {e : Entry} (h : t282_288 f = some e) : OKE PG B f e := brE h (fun h => leafE (o282 B) h) (fun h => leafE (o288 B) h)
theorem k280_288 {B : Nat}  {f : Nat} {e : Entry} (h : t280_288 f = some e) : OKE PG B f e := brE h (fun h => k280_281  h) (fun h => k282_288  h)
theorem k272_288 {B : Nat}  {f : Nat} {e : Entry} (h : t272_288 f = some e) : OKE PG B f e := brE h (fun h => k272_279  h) (fun h => k280_288  h)
theorem k262_288 {B : Nat}  {f : Nat} {e : Entry} (h : t262_288 f = some e) : OKE PG B f e := brE h (fun h => k262_271  h) (fun h => k272_288  h)
theorem k237_288 {B : Nat}  {f : Nat} {e : Entry} (h : t237_288 f = some e) : OKE PG B f e := brE h (fun h => k237_261  h) (fun h => k262_288  h)
theorem k183_288 {B : Nat}  {f : Nat} {e : Entry} (h : t183_288 f = some e) : OKE PG B f e := brE h (fun h => k183_236  h) (fun h => k237_288  h)
theorem k5_288 {B : Nat}  {f : Nat} {e : Entry} (h : t5_288 f = some e) : OKE PG B f e := brE h (fun h => k5_182  h) (fun h => k183_288  h)
theorem tableOK {B : Nat}  : TableOK PG B TL := fun f e h => show OKE PG B f e from k5_288  h
end Go.GS.R5
