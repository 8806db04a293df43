/- The tables of a run: facts of the functions. -/
import Derived.Test.YtbiehdiklgdhnaaGreatDoorSrTa
import Derived.Test.YtbiehdiklgdhnaaGreatDoorTqL
import Derived.Test.YtbiehdiklgdhnaaGreatDoorXsClosed
import Derived.Test.YtbiehdiklgdhnaaGreatDoorXiIns
import Derived.Test.YtbiehdiklgdhnaaGreatDoorXiBase
import Derived.Test.YtbiehdiklgdhnaaGreatDoorXiTrim
import Derived.Test.YtbiehdiklgdhnaaGreatDoorXsTab
import Derived.Test.YtbiehdiklgdhnaaGreatDoorXsFastE
import Derived.Test.YtbiehdiklgdhnaaGreatDoorSrMr0
import Derived.Test.YtbiehdiklgdhnaaGreatDoorSrMr1
import Derived.Test.YtbiehdiklgdhnaaGreatDoorSrMr2
import Derived.Test.YtbiehdiklgdhnaaGreatDoorSrMr3
set_option linter.unusedSimpArgs false
set_option linter.unusedVariables false
namespace Go.XS.Tryz
open Go Go.TS
set_option maxRecDepth 100000
theorem ck40 : codeOk hn0 Go.Proofs.Tryz.f40.ntmps (Go.Proofs.Tryz.f40.body.getD .skip) = true := by kernel_rfl
theorem ck28 : codeOk hn0 Go.Proofs.Tryz.f28.ntmps (Go.Proofs.Tryz.f28.body.getD .skip) = true := by kernel_rfl
theorem ck10 : codeOk hn0 Go.Proofs.Tryz.f10.ntmps (Go.Proofs.Tryz.f10.body.getD .skip) = true := by kernel_rfl
theorem ck64 : codeOk hn0 Go.Proofs.Tryz.f64.ntmps (Go.Proofs.Tryz.f64.body.getD .skip) = true := by kernel_rfl
theorem ck68 : codeOk hn0 Go.Proofs.Tryz.f68.ntmps (Go.Proofs.Tryz.f68.body.getD .skip) = true := by kernel_rfl
theorem ck69 : codeOk hn0 Go.Proofs.Tryz.f69.ntmps (Go.Proofs.Tryz.f69.body.getD .skip) = true := by kernel_rfl
theorem ck70 : codeOk hn0 Go.Proofs.Tryz.f70.ntmps (Go.Proofs.Tryz.f70.body.getD .skip) = true := by kernel_rfl
theorem ck229 : codeOk hn0 Go.Proofs.Tryz.f229.ntmps (Go.Proofs.Tryz.f229.body.getD .skip) = true := by kernel_rfl
theorem ck149 : codeOk hn0 Go.Proofs.Tryz.f149.ntmps (Go.Proofs.Tryz.f149.body.getD .skip) = true := by kernel_rfl
theorem ck150 : codeOk hn0 Go.Proofs.Tryz.f150.ntmps (Go.Proofs.Tryz.f150.body.getD .skip) = true := by kernel_rfl
theorem ck71 : codeOk hn0 Go.Proofs.Tryz.f71.ntmps (Go.Proofs.Tryz.f71.body.getD .skip) = true := by kernel_rfl
theorem ck72 : codeOk hn0 Go.Proofs.Tryz.f72.ntmps (Go.Proofs.Tryz.f72.body.getD .skip) = true := by kernel_rfl
theorem ck151 : codeOk hn0 Go.Proofs.Tryz.f151.ntmps (Go.Proofs.Tryz.f151.body.getD .skip) = true := by kernel_rfl
theorem ck73 : codeOk hn0 Go.Proofs.Tryz.f73.ntmps (Go.Proofs.Tryz.f73.body.getD .skip) = true := by kernel_rfl
theorem ck74 : codeOk hn0 Go.Proofs.Tryz.f74.ntmps (Go.Proofs.Tryz.f74.body.getD .skip) = true := by kernel_rfl
theorem ck152 : codeOk hn0 Go.Proofs.Tryz.f152.ntmps (Go.Proofs.Tryz.f152.body.getD .skip) = true := by kernel_rfl
theorem ck76 : codeOk hn0 Go.Proofs.Tryz.f76.ntmps (Go.Proofs.Tryz.f76.body.getD .skip) = true := by kernel_rfl
theorem ck77 : codeOk hn0 Go.Proofs.Tryz.f77.ntmps (Go.Proofs.Tryz.f77.body.getD .skip) = true := by kernel_rfl
theorem ck145 : codeOk hn0 Go.Proofs.Tryz.f145.ntmps (Go.Proofs.Tryz.f145.body.getD .skip) = true := by kernel_rfl
theorem ck75 : codeOk hn0 Go.Proofs.Tryz.f75.ntmps (Go.Proofs.Tryz.f75.body.getD .skip) = true := by kernel_rfl
theorem ck224 : codeOk hn0 Go.Proofs.Tryz.f224.ntmps (Go.Proofs.Tryz.f224.body.getD .skip) = true := by kernel_rfl
theorem ck298 : codeOk hn0 Go.Proofs.Tryz.f298.ntmps (Go.Proofs.Tryz.f298.body.getD .skip) = true := by kernel_rfl
theorem ck230 : codeOk hn0 Go.Proofs.Tryz.f230.ntmps (Go.Proofs.Tryz.f230.body.getD .skip) = true := by kernel_rfl
theorem ck299 : codeOk hn0 Go.Proofs.Tryz.f299.ntmps (Go.Proofs.Tryz.f299.body.getD .skip) = true := by kernel_rfl
theorem ck231 : codeOk hn0 Go.Proofs.Tryz.f231.ntmps (Go.Proofs.Tryz.f231.body.getD .skip) = true := by kernel_rfl
theorem ck300 : codeOk hn0 Go.Proofs.Tryz.f300.ntmps (Go.Proofs.Tryz.f300.body.getD .skip) = true := by kernel_rfl
theorem ck232 : codeOk hn0 Go.Proofs.Tryz.f232.ntmps (Go.Proofs.Tryz.f232.body.getD .skip) = true := by kernel_rfl
theorem ck153 : codeOk hn0 Go.Proofs.Tryz.f153.ntmps (Go.Proofs.Tryz.f153.body.getD .skip) = true := by kernel_rfl
theorem ck233 : codeOk hn0 Go.Proofs.Tryz.f233.ntmps (Go.Proofs.Tryz.f233.body.getD .skip) = true := by kernel_rfl
theorem ck154 : codeOk hn0 Go.Proofs.Tryz.f154.ntmps (Go.Proofs.Tryz.f154.body.getD .skip) = true := by kernel_rfl
theorem ck234 : codeOk hn0 Go.Proofs.Tryz.f234.ntmps (Go.Proofs.Tryz.f234.body.getD .skip) = true := by kernel_rfl
theorem ck235 : codeOk hn0 Go.Proofs.Tryz.f235.ntmps (Go.Proofs.Tryz.f235.body.getD .skip) = true := by kernel_rfl
theorem ck142 : codeOk hn0 Go.Proofs.Tryz.f142.ntmps (Go.Proofs.Tryz.f142.body.getD .skip) = true := by kernel_rfl
theorem ck143 : codeOk hn0 Go.Proofs.Tryz.f143.ntmps (Go.Proofs.Tryz.f143.body.getD .skip) = true := by kernel_rfl
theorem ck86 : codeOk hn0 Go.Proofs.Tryz.f86.ntmps (Go.Proofs.Tryz.f86.body.getD .skip) = true := by kernel_rfl
theorem ck158 : codeOk hn0 Go.Proofs.Tryz.f158.ntmps (Go.Proofs.Tryz.f158.body.getD .skip) = true := by kernel_rfl
theorem ck144 : codeOk hn0 Go.Proofs.Tryz.f144.ntmps (Go.Proofs.Tryz.f144.body.getD .skip) = true := by kernel_rfl
theorem ck65 : codeOk hn0 Go.Proofs.Tryz.f65.ntmps (Go.Proofs.Tryz.f65.body.getD .skip) = true := by kernel_rfl
theorem ck237 : codeOk hn0 Go.Proofs.Tryz.f237.ntmps (Go.Proofs.Tryz.f237.body.getD .skip) = true := by kernel_rfl
theorem ck236 : codeOk hn0 Go.Proofs.Tryz.f236.ntmps (Go.Proofs.Tryz.f236.body.getD .skip) = true := by kernel_rfl
theorem ck155 : codeOk hn0 Go.Proofs.Tryz.f155.ntmps (Go.Proofs.Tryz.f155.body.getD .skip) = true := by kernel_rfl
theorem ck78 : codeOk hn0 Go.Proofs.Tryz.f78.ntmps (Go.Proofs.Tryz.f78.body.getD .skip) = true := by kernel_rfl
theorem ck156 : codeOk hn0 Go.Proofs.Tryz.f156.ntmps (Go.Proofs.Tryz.f156.body.getD .skip) = true := by kernel_rfl
theorem ck79 : codeOk hn0 Go.Proofs.Tryz.f79.ntmps (Go.Proofs.Tryz.f79.body.getD .skip) = true := by kernel_rfl
theorem ck80 : codeOk hn0 Go.Proofs.Tryz.f80.ntmps (Go.Proofs.Tryz.f80.body.getD .skip) = true := by kernel_rfl
theorem ck238 : codeOk hn0 Go.Proofs.Tryz.f238.ntmps (Go.Proofs.Tryz.f238.body.getD .skip) = true := by kernel_rfl
theorem ck157 : codeOk hn0 Go.Proofs.Tryz.f157.ntmps (Go.Proofs.Tryz.f157.body.getD .skip) = true := by kernel_rfl
theorem ck81 : codeOk hn0 Go.Proofs.Tryz.f81.ntmps (Go.Proofs.Tryz.f81.body.getD .skip) = true := by kernel_rfl
theorem ck159 : codeOk hn0 Go.Proofs.Tryz.f159.ntmps (Go.Proofs.Tryz.f159.body.getD .skip) = true := by kernel_rfl
theorem ck83 : codeOk hn0 Go.Proofs.Tryz.f83.ntmps (Go.Proofs.Tryz.f83.body.getD .skip) = true := by kernel_rfl
theorem ck31 : codeOk hn0 Go.Proofs.Tryz.f31.ntmps (Go.Proofs.Tryz.f31.body.getD .skip) = true := by kernel_rfl
theorem ck134 : codeOk hn0 Go.Proofs.Tryz.f134.ntmps (Go.Proofs.Tryz.f134.body.getD .skip) = true := by kernel_rfl
theorem ck62 : codeOk hn0 Go.Proofs.Tryz.f62.ntmps (Go.Proofs.Tryz.f62.body.getD .skip) = true := by kernel_rfl
theorem ck29 : codeOk hn0 Go.Proofs.Tryz.f29.ntmps (Go.Proofs.Tryz.f29.body.getD .skip) = true := by kernel_rfl
theorem ck36 : codeOk hn0 Go.Proofs.Tryz.f36.ntmps (Go.Proofs.Tryz.f36.body.getD .skip) = true := by kernel_rfl
theorem ck66 : codeOk hn0 Go.Proofs.Tryz.f66.ntmps (Go.Proofs.Tryz.f66.body.getD .skip) = true := by kernel_rfl
theorem ck170 : codeOk hn0 Go.Proofs.Tryz.f170.ntmps (Go.Proofs.Tryz.f170.body.getD .skip) = true := by kernel_rfl
theorem ck184 : codeOk hn0 Go.Proofs.Tryz.f184.ntmps (Go.Proofs.Tryz.f184.body.getD .skip) = true := by kernel_rfl
theorem ck167 : codeOk hn0 Go.Proofs.Tryz.f167.ntmps (Go.Proofs.Tryz.f167.body.getD .skip) = true := by kernel_rfl
theorem ck304 : codeOk hn0 Go.Proofs.Tryz.f304.ntmps (Go.Proofs.Tryz.f304.body.getD .skip) = true := by kernel_rfl
theorem ck250 : codeOk hn0 Go.Proofs.Tryz.f250.ntmps (Go.Proofs.Tryz.f250.body.getD .skip) = true := by kernel_rfl
theorem ck251 : codeOk hn0 Go.Proofs.Tryz.f251.ntmps (Go.Proofs.Tryz.f251.body.getD .skip) = true := by kernel_rfl
theorem ck180 : codeOk hn0 Go.Proofs.Tryz.f180.ntmps (Go.Proofs.Tryz.f180.body.getD .skip) = true := by kernel_rfl
theorem ck249 : codeOk hn0 Go.Proofs.Tryz.f249.ntmps (Go.Proofs.Tryz.f249.body.getD .skip) = true := by kernel_rfl
theorem ck166 : codeOk hn0 Go.Proofs.Tryz.f166.ntmps (Go.Proofs.Tryz.f166.body.getD .skip) = true := by kernel_rfl
theorem ck305 : codeOk hn0 Go.Proofs.Tryz.f305.ntmps (Go.Proofs.Tryz.f305.body.getD .skip) = true := by kernel_rfl
theorem ck253 : codeOk hn0 Go.Proofs.Tryz.f253.ntmps (Go.Proofs.Tryz.f253.body.getD .skip) = true := by kernel_rfl
theorem ck185 : codeOk hn0 Go.Proofs.Tryz.f185.ntmps (Go.Proofs.Tryz.f185.body.getD .skip) = true := by kernel_rfl
theorem ck113 : codeOk hn0 Go.Proofs.Tryz.f113.ntmps (Go.Proofs.Tryz.f113.body.getD .skip) = true := by kernel_rfl
theorem ck204 : codeOk hn0 Go.Proofs.Tryz.f204.ntmps (Go.Proofs.Tryz.f204.body.getD .skip) = true := by kernel_rfl
theorem ck318 : codeOk hn0 Go.Proofs.Tryz.f318.ntmps (Go.Proofs.Tryz.f318.body.getD .skip) = true := by kernel_rfl
theorem ck347 : codeOk hn0 Go.Proofs.Tryz.f347.ntmps (Go.Proofs.Tryz.f347.body.getD .skip) = true := by kernel_rfl
theorem ck319 : codeOk hn0 Go.Proofs.Tryz.f319.ntmps (Go.Proofs.Tryz.f319.body.getD .skip) = true := by kernel_rfl
theorem ck320 : codeOk hn0 Go.Proofs.Tryz.f320.ntmps (Go.Proofs.Tryz.f320.body.getD .skip) = true := by kernel_rfl
theorem ck272 : codeOk hn0 Go.Proofs.Tryz.f272.ntmps (Go.Proofs.Tryz.f272.body.getD .skip) = true := by kernel_rfl
theorem ck203 : codeOk hn0 Go.Proofs.Tryz.f203.ntmps (Go.Proofs.Tryz.f203.body.getD .skip) = true := by kernel_rfl
theorem ck208 : codeOk hn0 Go.Proofs.Tryz.f208.ntmps (Go.Proofs.Tryz.f208.body.getD .skip) = true := by kernel_rfl
theorem ck146 : codeOk hn0 Go.Proofs.Tryz.f146.ntmps (Go.Proofs.Tryz.f146.body.getD .skip) = true := by kernel_rfl
theorem ck228 : codeOk hn0 Go.Proofs.Tryz.f228.ntmps (Go.Proofs.Tryz.f228.body.getD .skip) = true := by kernel_rfl
theorem ck147 : codeOk hn0 Go.Proofs.Tryz.f147.ntmps (Go.Proofs.Tryz.f147.body.getD .skip) = true := by kernel_rfl
theorem ck210 : codeOk hn0 Go.Proofs.Tryz.f210.ntmps (Go.Proofs.Tryz.f210.body.getD .skip) = true := by kernel_rfl
theorem ck209 : codeOk hn0 Go.Proofs.Tryz.f209.ntmps (Go.Proofs.Tryz.f209.body.getD .skip) = true := by kernel_rfl
theorem ck148 : codeOk hn0 Go.Proofs.Tryz.f148.ntmps (Go.Proofs.Tryz.f148.body.getD .skip) = true := by kernel_rfl
theorem ck67 : codeOk hn0 Go.Proofs.Tryz.f67.ntmps (Go.Proofs.Tryz.f67.body.getD .skip) = true := by kernel_rfl
theorem ck30 : codeOk hn0 Go.Proofs.Tryz.f30.ntmps (Go.Proofs.Tryz.f30.body.getD .skip) = true := by kernel_rfl
theorem ck32 : codeOk hn0 Go.Proofs.Tryz.f32.ntmps (Go.Proofs.Tryz.f32.body.getD .skip) = true := by kernel_rfl
theorem ck11 : codeOk hn0 Go.Proofs.Tryz.f11.ntmps (Go.Proofs.Tryz.f11.body.getD .skip) = true := by kernel_rfl
theorem ck4 : codeOk hn0 Go.Proofs.Tryz.f4.ntmps (Go.Proofs.Tryz.f4.body.getD .skip) = true := by kernel_rfl
theorem ck37 : codeOk hn0 Go.Proofs.Tryz.f37.ntmps (Go.Proofs.Tryz.f37.body.getD .skip) = true := by kernel_rfl
theorem ck17 : codeOk hn0 Go.Proofs.Tryz.f17.ntmps (Go.Proofs.Tryz.f17.body.getD .skip) = true := by kernel_rfl
theorem ck88 : codeOk hn0 Go.Proofs.Tryz.f88.ntmps (Go.Proofs.Tryz.f88.body.getD .skip) = true := by kernel_rfl
theorem ck89 : codeOk hn0 Go.Proofs.Tryz.f89.ntmps (Go.Proofs.Tryz.f89.body.getD .skip) = true := by kernel_rfl
theorem ck38 : codeOk hn0 Go.Proofs.Tryz.f38.ntmps (Go.Proofs.Tryz.f38.body.getD .skip) = true := by kernel_rfl
theorem ck18 : codeOk hn0 Go.Proofs.Tryz.f18.ntmps (Go.Proofs.Tryz.f18.body.getD .skip) = true := by kernel_rfl
theorem ck5 : codeOk hn0 Go.Proofs.Tryz.f5.ntmps (Go.Proofs.Tryz.f5.body.getD .skip) = true := by kernel_rfl
theorem ck13 : codeOk hn0 Go.Proofs.Tryz.f13.ntmps (Go.Proofs.Tryz.f13.body.getD .skip) = true := by kernel_rfl
theorem ck188 : codeOk hn0 Go.Proofs.Tryz.f188.ntmps (Go.Proofs.Tryz.f188.body.getD .skip) = true := by kernel_rfl
theorem ck186 : codeOk hn0 Go.Proofs.Tryz.f186.ntmps (Go.Proofs.Tryz.f186.body.getD .skip) = true := by kernel_rfl
theorem ck96 : codeOk hn0 Go.Proofs.Tryz.f96.ntmps (Go.Proofs.Tryz.f96.body.getD .skip) = true := by kernel_rfl
theorem ck187 : codeOk hn0 Go.Proofs.Tryz.f187.ntmps (Go.Proofs.Tryz.f187.body.getD .skip) = true := by kernel_rfl
theorem ck189 : codeOk hn0 Go.Proofs.Tryz.f189.ntmps (Go.Proofs.Tryz.f189.body.getD .skip) = true := by kernel_rfl
theorem ck190 : codeOk hn0 Go.Proofs.Tryz.f190.ntmps (Go.Proofs.Tryz.f190.body.getD .skip) = true := by kernel_rfl
theorem ck116 : codeOk hn0 Go.Proofs.Tryz.f116.ntmps (Go.Proofs.Tryz.f116.body.getD .skip) = true := by kernel_rfl
theorem ck49 : codeOk hn0 Go.Proofs.Tryz.f49.ntmps (Go.Proofs.Tryz.f49.body.getD .skip) = true := by kernel_rfl
theorem ck90 : codeOk hn0 Go.Proofs.Tryz.f90.ntmps (Go.Proofs.Tryz.f90.body.getD .skip) = true := by kernel_rfl
theorem ck87 : codeOk hn0 Go.Proofs.Tryz.f87.ntmps (Go.Proofs.Tryz.f87.body.getD .skip) = true := by kernel_rfl
theorem ck285 : codeOk hn0 Go.Proofs.Tryz.f285.ntmps (Go.Proofs.Tryz.f285.body.getD .skip) = true := by kernel_rfl
theorem ck221 : codeOk hn0 Go.Proofs.Tryz.f221.ntmps (Go.Proofs.Tryz.f221.body.getD .skip) = true := by kernel_rfl
theorem ck244 : codeOk hn0 Go.Proofs.Tryz.f244.ntmps (Go.Proofs.Tryz.f244.body.getD .skip) = true := by kernel_rfl
theorem ck168 : codeOk hn0 Go.Proofs.Tryz.f168.ntmps (Go.Proofs.Tryz.f168.body.getD .skip) = true := by kernel_rfl
theorem ck245 : codeOk hn0 Go.Proofs.Tryz.f245.ntmps (Go.Proofs.Tryz.f245.body.getD .skip) = true := by kernel_rfl
theorem ck169 : codeOk hn0 Go.Proofs.Tryz.f169.ntmps (Go.Proofs.Tryz.f169.body.getD .skip) = true := by kernel_rfl
theorem ck95 : codeOk hn0 Go.Proofs.Tryz.f95.ntmps (Go.Proofs.Tryz.f95.body.getD .skip) = true := by kernel_rfl
theorem ck266 : codeOk hn0 Go.Proofs.Tryz.f266.ntmps (Go.Proofs.Tryz.f266.body.getD .skip) = true := by kernel_rfl
theorem ck267 : codeOk hn0 Go.Proofs.Tryz.f267.ntmps (Go.Proofs.Tryz.f267.body.getD .skip) = true := by kernel_rfl
theorem ck174 : codeOk hn0 Go.Proofs.Tryz.f174.ntmps (Go.Proofs.Tryz.f174.body.getD .skip) = true := by kernel_rfl
theorem ck175 : codeOk hn0 Go.Proofs.Tryz.f175.ntmps (Go.Proofs.Tryz.f175.body.getD .skip) = true := by kernel_rfl
theorem ck268 : codeOk hn0 Go.Proofs.Tryz.f268.ntmps (Go.Proofs.Tryz.f268.body.getD .skip) = true := by kernel_rfl
theorem ck197 : codeOk hn0 Go.Proofs.Tryz.f197.ntmps (Go.Proofs.Tryz.f197.body.getD .skip) = true := by kernel_rfl
theorem ck315 : codeOk hn0 Go.Proofs.Tryz.f315.ntmps (Go.Proofs.Tryz.f315.body.getD .skip) = true := by kernel_rfl
theorem ck269 : codeOk hn0 Go.Proofs.Tryz.f269.ntmps (Go.Proofs.Tryz.f269.body.getD .skip) = true := by kernel_rfl
theorem ck198 : codeOk hn0 Go.Proofs.Tryz.f198.ntmps (Go.Proofs.Tryz.f198.body.getD .skip) = true := by kernel_rfl
theorem ck94 : codeOk hn0 Go.Proofs.Tryz.f94.ntmps (Go.Proofs.Tryz.f94.body.getD .skip) = true := by kernel_rfl
theorem ck317 : codeOk hn0 Go.Proofs.Tryz.f317.ntmps (Go.Proofs.Tryz.f317.body.getD .skip) = true := by kernel_rfl
theorem ck316 : codeOk hn0 Go.Proofs.Tryz.f316.ntmps (Go.Proofs.Tryz.f316.body.getD .skip) = true := by kernel_rfl
theorem ck270 : codeOk hn0 Go.Proofs.Tryz.f270.ntmps (Go.Proofs.Tryz.f270.body.getD .skip) = true := by kernel_rfl
theorem ck199 : codeOk hn0 Go.Proofs.Tryz.f199.ntmps (Go.Proofs.Tryz.f199.body.getD .skip) = true := by kernel_rfl
theorem ck123 : codeOk hn0 Go.Proofs.Tryz.f123.ntmps (Go.Proofs.Tryz.f123.body.getD .skip) = true := by kernel_rfl
theorem ck163 : codeOk hn0 Go.Proofs.Tryz.f163.ntmps (Go.Proofs.Tryz.f163.body.getD .skip) = true := by kernel_rfl
theorem ck91 : codeOk hn0 Go.Proofs.Tryz.f91.ntmps (Go.Proofs.Tryz.f91.body.getD .skip) = true := by kernel_rfl
theorem ck323 : codeOk hn0 Go.Proofs.Tryz.f323.ntmps (Go.Proofs.Tryz.f323.body.getD .skip) = true := by kernel_rfl
theorem ck279 : codeOk hn0 Go.Proofs.Tryz.f279.ntmps (Go.Proofs.Tryz.f279.body.getD .skip) = true := by kernel_rfl
theorem ck280 : codeOk hn0 Go.Proofs.Tryz.f280.ntmps (Go.Proofs.Tryz.f280.body.getD .skip) = true := by kernel_rfl
theorem ck309 : codeOk hn0 Go.Proofs.Tryz.f309.ntmps (Go.Proofs.Tryz.f309.body.getD .skip) = true := by kernel_rfl
theorem ck296 : codeOk hn0 Go.Proofs.Tryz.f296.ntmps (Go.Proofs.Tryz.f296.body.getD .skip) = true := by kernel_rfl
theorem ck297 : codeOk hn0 Go.Proofs.Tryz.f297.ntmps (Go.Proofs.Tryz.f297.body.getD .skip) = true := by kernel_rfl
theorem ck227 : codeOk hn0 Go.Proofs.Tryz.f227.ntmps (Go.Proofs.Tryz.f227.body.getD .skip) = true := by kernel_rfl
theorem ck376 : codeOk hn0 Go.Proofs.Tryz.f376.ntmps (Go.Proofs.Tryz.f376.body.getD .skip) = true := by kernel_rfl
theorem ck385 : codeOk hn0 Go.Proofs.Tryz.f385.ntmps (Go.Proofs.Tryz.f385.body.getD .skip) = true := by kernel_rfl
theorem ck377 : codeOk hn0 Go.Proofs.Tryz.f377.ntmps (Go.Proofs.Tryz.f377.body.getD .skip) = true := by kernel_rfl
theorem ck333 : codeOk hn0 Go.Proofs.Tryz.f333.ntmps (Go.Proofs.Tryz.f333.body.getD .skip) = true := by kernel_rfl
theorem ck334 : codeOk hn0 Go.Proofs.Tryz.f334.ntmps (Go.Proofs.Tryz.f334.body.getD .skip) = true := by kernel_rfl
theorem ck378 : codeOk hn0 Go.Proofs.Tryz.f378.ntmps (Go.Proofs.Tryz.f378.body.getD .skip) = true := by kernel_rfl
theorem ck388 : codeOk hn0 Go.Proofs.Tryz.f388.ntmps (Go.Proofs.Tryz.f388.body.getD .skip) = true := by kernel_rfl
theorem ck387 : codeOk hn0 Go.Proofs.Tryz.f387.ntmps (Go.Proofs.Tryz.f387.body.getD .skip) = true := by kernel_rfl
theorem ck386 : codeOk hn0 Go.Proofs.Tryz.f386.ntmps (Go.Proofs.Tryz.f386.body.getD .skip) = true := by kernel_rfl
theorem ck379 : codeOk hn0 Go.Proofs.Tryz.f379.ntmps (Go.Proofs.Tryz.f379.body.getD .skip) = true := by kernel_rfl
theorem ck380 : codeOk hn0 Go.Proofs.Tryz.f380.ntmps (Go.Proofs.Tryz.f380.body.getD .skip) = true := by kernel_rfl
theorem ck381 : codeOk hn0 Go.Proofs.Tryz.f381.ntmps (Go.Proofs.Tryz.f381.body.getD .skip) = true := by kernel_rfl
theorem ck382 : codeOk hn0 Go.Proofs.Tryz.f382.ntmps (Go.Proofs.Tryz.f382.body.getD .skip) = true := by kernel_rfl
theorem ck383 : codeOk hn0 Go.Proofs.Tryz.f383.ntmps (Go.Proofs.Tryz.f383.body.getD .skip) = true := by kernel_rfl
theorem ck368 : codeOk hn0 Go.Proofs.Tryz.f368.ntmps (Go.Proofs.Tryz.f368.body.getD .skip) = true := by kernel_rfl
theorem ck344 : codeOk hn0 Go.Proofs.Tryz.f344.ntmps (Go.Proofs.Tryz.f344.body.getD .skip) = true := by kernel_rfl
theorem ck345 : codeOk hn0 Go.Proofs.Tryz.f345.ntmps (Go.Proofs.Tryz.f345.body.getD .skip) = true := by kernel_rfl
theorem ck310 : codeOk hn0 Go.Proofs.Tryz.f310.ntmps (Go.Proofs.Tryz.f310.body.getD .skip) = true := by kernel_rfl
theorem ck312 : codeOk hn0 Go.Proofs.Tryz.f312.ntmps (Go.Proofs.Tryz.f312.body.getD .skip) = true := by kernel_rfl
theorem ck308 : codeOk hn0 Go.Proofs.Tryz.f308.ntmps (Go.Proofs.Tryz.f308.body.getD .skip) = true := by kernel_rfl
theorem ck256 : codeOk hn0 Go.Proofs.Tryz.f256.ntmps (Go.Proofs.Tryz.f256.body.getD .skip) = true := by kernel_rfl
theorem ck255 : codeOk hn0 Go.Proofs.Tryz.f255.ntmps (Go.Proofs.Tryz.f255.body.getD .skip) = true := by kernel_rfl
theorem ck191 : codeOk hn0 Go.Proofs.Tryz.f191.ntmps (Go.Proofs.Tryz.f191.body.getD .skip) = true := by kernel_rfl
theorem ck257 : codeOk hn0 Go.Proofs.Tryz.f257.ntmps (Go.Proofs.Tryz.f257.body.getD .skip) = true := by kernel_rfl
theorem ck242 : codeOk hn0 Go.Proofs.Tryz.f242.ntmps (Go.Proofs.Tryz.f242.body.getD .skip) = true := by kernel_rfl
theorem ck164 : codeOk hn0 Go.Proofs.Tryz.f164.ntmps (Go.Proofs.Tryz.f164.body.getD .skip) = true := by kernel_rfl
theorem ck171 : codeOk hn0 Go.Proofs.Tryz.f171.ntmps (Go.Proofs.Tryz.f171.body.getD .skip) = true := by kernel_rfl
theorem ck172 : codeOk hn0 Go.Proofs.Tryz.f172.ntmps (Go.Proofs.Tryz.f172.body.getD .skip) = true := by kernel_rfl
theorem ck246 : codeOk hn0 Go.Proofs.Tryz.f246.ntmps (Go.Proofs.Tryz.f246.body.getD .skip) = true := by kernel_rfl
theorem ck173 : codeOk hn0 Go.Proofs.Tryz.f173.ntmps (Go.Proofs.Tryz.f173.body.getD .skip) = true := by kernel_rfl
theorem ck98 : codeOk hn0 Go.Proofs.Tryz.f98.ntmps (Go.Proofs.Tryz.f98.body.getD .skip) = true := by kernel_rfl
theorem ck99 : codeOk hn0 Go.Proofs.Tryz.f99.ntmps (Go.Proofs.Tryz.f99.body.getD .skip) = true := by kernel_rfl
theorem ck101 : codeOk hn0 Go.Proofs.Tryz.f101.ntmps (Go.Proofs.Tryz.f101.body.getD .skip) = true := by kernel_rfl
theorem ck108 : codeOk hn0 Go.Proofs.Tryz.f108.ntmps (Go.Proofs.Tryz.f108.body.getD .skip) = true := by kernel_rfl
theorem ck115 : codeOk hn0 Go.Proofs.Tryz.f115.ntmps (Go.Proofs.Tryz.f115.body.getD .skip) = true := by kernel_rfl
theorem ck243 : codeOk hn0 Go.Proofs.Tryz.f243.ntmps (Go.Proofs.Tryz.f243.body.getD .skip) = true := by kernel_rfl
theorem ck165 : codeOk hn0 Go.Proofs.Tryz.f165.ntmps (Go.Proofs.Tryz.f165.body.getD .skip) = true := by kernel_rfl
theorem ck92 : codeOk hn0 Go.Proofs.Tryz.f92.ntmps (Go.Proofs.Tryz.f92.body.getD .skip) = true := by kernel_rfl
theorem ck93 : codeOk hn0 Go.Proofs.Tryz.f93.ntmps (Go.Proofs.Tryz.f93.body.getD .skip) = true := by kernel_rfl
theorem ck39 : codeOk hn0 Go.Proofs.Tryz.f39.ntmps (Go.Proofs.Tryz.f39.body.getD .skip) = true := by kernel_rfl
theorem ck41 : codeOk hn0 Go.Proofs.Tryz.f41.ntmps (Go.Proofs.Tryz.f41.body.getD .skip) = true := by kernel_rfl
theorem ck19 : codeOk hn0 Go.Proofs.Tryz.f19.ntmps (Go.Proofs.Tryz.f19.body.getD .skip) = true := by kernel_rfl
theorem ck100 : codeOk hn0 Go.Proofs.Tryz.f100.ntmps (Go.Proofs.Tryz.f100.body.getD .skip) = true := by kernel_rfl
theorem ck102 : codeOk hn0 Go.Proofs.Tryz.f102.ntmps (Go.Proofs.Tryz.f102.body.getD .skip) = true := by kernel_rfl
theorem ck247 : codeOk hn0 Go.Proofs.Tryz.f247.ntmps (Go.Proofs.Tryz.f247.body.getD .skip) = true := by kernel_rfl
theorem ck176 : codeOk hn0 Go.Proofs.Tryz.f176.ntmps (Go.Proofs.Tryz.f176.body.getD .skip) = true := by kernel_rfl
theorem ck248 : codeOk hn0 Go.Proofs.Tryz.f248.ntmps (Go.Proofs.Tryz.f248.body.getD .skip) = true := by kernel_rfl
theorem ck177 : codeOk hn0 Go.Proofs.Tryz.f177.ntmps (Go.Proofs.Tryz.f177.body.getD .skip) = true := by kernel_rfl
theorem ck103 : codeOk hn0 Go.Proofs.Tryz.f103.ntmps (Go.Proofs.Tryz.f103.body.getD .skip) = true := by kernel_rfl
theorem ck42 : codeOk hn0 Go.Proofs.Tryz.f42.ntmps (Go.Proofs.Tryz.f42.body.getD .skip) = true := by kernel_rfl
theorem ck104 : codeOk hn0 Go.Proofs.Tryz.f104.ntmps (Go.Proofs.Tryz.f104.body.getD .skip) = true := by kernel_rfl
theorem ck43 : codeOk hn0 Go.Proofs.Tryz.f43.ntmps (Go.Proofs.Tryz.f43.body.getD .skip) = true := by kernel_rfl
theorem ck20 : codeOk hn0 Go.Proofs.Tryz.f20.ntmps (Go.Proofs.Tryz.f20.body.getD .skip) = true := by kernel_rfl
theorem ck6 : codeOk hn0 Go.Proofs.Tryz.f6.ntmps (Go.Proofs.Tryz.f6.body.getD .skip) = true := by kernel_rfl
theorem ck105 : codeOk hn0 Go.Proofs.Tryz.f105.ntmps (Go.Proofs.Tryz.f105.body.getD .skip) = true := by kernel_rfl
theorem ck106 : codeOk hn0 Go.Proofs.Tryz.f106.ntmps (Go.Proofs.Tryz.f106.body.getD .skip) = true := by kernel_rfl
theorem ck406 : codeOk hn0 Go.Proofs.Tryz.f406.ntmps (Go.Proofs.Tryz.f406.body.getD .skip) = true := by kernel_rfl
theorem ck414 : codeOk hn0 Go.Proofs.Tryz.f414.ntmps (Go.Proofs.Tryz.f414.body.getD .skip) = true := by kernel_rfl
theorem ck44 : codeOk hn0 Go.Proofs.Tryz.f44.ntmps (Go.Proofs.Tryz.f44.body.getD .skip) = true := by kernel_rfl
theorem ck405 : codeOk hn0 Go.Proofs.Tryz.f405.ntmps (Go.Proofs.Tryz.f405.body.getD .skip) = true := by kernel_rfl
theorem ck420 : codeOk hn0 Go.Proofs.Tryz.f420.ntmps (Go.Proofs.Tryz.f420.body.getD .skip) = true := by kernel_rfl
theorem ck413 : codeOk hn0 Go.Proofs.Tryz.f413.ntmps (Go.Proofs.Tryz.f413.body.getD .skip) = true := by kernel_rfl
theorem ck21 : codeOk hn0 Go.Proofs.Tryz.f21.ntmps (Go.Proofs.Tryz.f21.body.getD .skip) = true := by kernel_rfl
theorem ck22 : codeOk hn0 Go.Proofs.Tryz.f22.ntmps (Go.Proofs.Tryz.f22.body.getD .skip) = true := by kernel_rfl
theorem ck107 : codeOk hn0 Go.Proofs.Tryz.f107.ntmps (Go.Proofs.Tryz.f107.body.getD .skip) = true := by kernel_rfl
theorem ck45 : codeOk hn0 Go.Proofs.Tryz.f45.ntmps (Go.Proofs.Tryz.f45.body.getD .skip) = true := by kernel_rfl
theorem ck178 : codeOk hn0 Go.Proofs.Tryz.f178.ntmps (Go.Proofs.Tryz.f178.body.getD .skip) = true := by kernel_rfl
theorem ck109 : codeOk hn0 Go.Proofs.Tryz.f109.ntmps (Go.Proofs.Tryz.f109.body.getD .skip) = true := by kernel_rfl
theorem ck46 : codeOk hn0 Go.Proofs.Tryz.f46.ntmps (Go.Proofs.Tryz.f46.body.getD .skip) = true := by kernel_rfl
theorem ck179 : codeOk hn0 Go.Proofs.Tryz.f179.ntmps (Go.Proofs.Tryz.f179.body.getD .skip) = true := by kernel_rfl
theorem ck182 : codeOk hn0 Go.Proofs.Tryz.f182.ntmps (Go.Proofs.Tryz.f182.body.getD .skip) = true := by kernel_rfl
theorem ck111 : codeOk hn0 Go.Proofs.Tryz.f111.ntmps (Go.Proofs.Tryz.f111.body.getD .skip) = true := by kernel_rfl
theorem ck110 : codeOk hn0 Go.Proofs.Tryz.f110.ntmps (Go.Proofs.Tryz.f110.body.getD .skip) = true := by kernel_rfl
theorem ck47 : codeOk hn0 Go.Proofs.Tryz.f47.ntmps (Go.Proofs.Tryz.f47.body.getD .skip) = true := by kernel_rfl
theorem ck114 : codeOk hn0 Go.Proofs.Tryz.f114.ntmps (Go.Proofs.Tryz.f114.body.getD .skip) = true := by kernel_rfl
theorem ck48 : codeOk hn0 Go.Proofs.Tryz.f48.ntmps (Go.Proofs.Tryz.f48.body.getD .skip) = true := by kernel_rfl
theorem ck50 : codeOk hn0 Go.Proofs.Tryz.f50.ntmps (Go.Proofs.Tryz.f50.body.getD .skip) = true := by kernel_rfl
theorem ck51 : codeOk hn0 Go.Proofs.Tryz.f51.ntmps (Go.Proofs.Tryz.f51.body.getD .skip) = true := by kernel_rfl
theorem ck52 : codeOk hn0 Go.Proofs.Tryz.f52.ntmps (Go.Proofs.Tryz.f52.body.getD .skip) = true := by kernel_rfl
theorem ck193 : codeOk hn0 Go.Proofs.Tryz.f193.ntmps (Go.Proofs.Tryz.f193.body.getD .skip) = true := by kernel_rfl
theorem ck259 : codeOk hn0 Go.Proofs.Tryz.f259.ntmps (Go.Proofs.Tryz.f259.body.getD .skip) = true := by kernel_rfl
theorem ck264 : codeOk hn0 Go.Proofs.Tryz.f264.ntmps (Go.Proofs.Tryz.f264.body.getD .skip) = true := by kernel_rfl
theorem ck263 : codeOk hn0 Go.Proofs.Tryz.f263.ntmps (Go.Proofs.Tryz.f263.body.getD .skip) = true := by kernel_rfl
theorem ck194 : codeOk hn0 Go.Proofs.Tryz.f194.ntmps (Go.Proofs.Tryz.f194.body.getD .skip) = true := by kernel_rfl
theorem ck258 : codeOk hn0 Go.Proofs.Tryz.f258.ntmps (Go.Proofs.Tryz.f258.body.getD .skip) = true := by kernel_rfl
theorem ck265 : codeOk hn0 Go.Proofs.Tryz.f265.ntmps (Go.Proofs.Tryz.f265.body.getD .skip) = true := by kernel_rfl
theorem ck311 : codeOk hn0 Go.Proofs.Tryz.f311.ntmps (Go.Proofs.Tryz.f311.body.getD .skip) = true := by kernel_rfl
theorem ck313 : codeOk hn0 Go.Proofs.Tryz.f313.ntmps (Go.Proofs.Tryz.f313.body.getD .skip) = true := by kernel_rfl
theorem ck261 : codeOk hn0 Go.Proofs.Tryz.f261.ntmps (Go.Proofs.Tryz.f261.body.getD .skip) = true := by kernel_rfl
theorem ck262 : codeOk hn0 Go.Proofs.Tryz.f262.ntmps (Go.Proofs.Tryz.f262.body.getD .skip) = true := by kernel_rfl
theorem ck195 : codeOk hn0 Go.Proofs.Tryz.f195.ntmps (Go.Proofs.Tryz.f195.body.getD .skip) = true := by kernel_rfl
theorem ck196 : codeOk hn0 Go.Proofs.Tryz.f196.ntmps (Go.Proofs.Tryz.f196.body.getD .skip) = true := by kernel_rfl
theorem ck121 : codeOk hn0 Go.Proofs.Tryz.f121.ntmps (Go.Proofs.Tryz.f121.body.getD .skip) = true := by kernel_rfl
theorem ck55 : codeOk hn0 Go.Proofs.Tryz.f55.ntmps (Go.Proofs.Tryz.f55.body.getD .skip) = true := by kernel_rfl
theorem ck260 : codeOk hn0 Go.Proofs.Tryz.f260.ntmps (Go.Proofs.Tryz.f260.body.getD .skip) = true := by kernel_rfl
theorem ck214 : codeOk hn0 Go.Proofs.Tryz.f214.ntmps (Go.Proofs.Tryz.f214.body.getD .skip) = true := by kernel_rfl
theorem ck215 : codeOk hn0 Go.Proofs.Tryz.f215.ntmps (Go.Proofs.Tryz.f215.body.getD .skip) = true := by kernel_rfl
theorem ck130 : codeOk hn0 Go.Proofs.Tryz.f130.ntmps (Go.Proofs.Tryz.f130.body.getD .skip) = true := by kernel_rfl
theorem ck59 : codeOk hn0 Go.Proofs.Tryz.f59.ntmps (Go.Proofs.Tryz.f59.body.getD .skip) = true := by kernel_rfl
theorem ck192 : codeOk hn0 Go.Proofs.Tryz.f192.ntmps (Go.Proofs.Tryz.f192.body.getD .skip) = true := by kernel_rfl
theorem ck117 : codeOk hn0 Go.Proofs.Tryz.f117.ntmps (Go.Proofs.Tryz.f117.body.getD .skip) = true := by kernel_rfl
theorem ck58 : codeOk hn0 Go.Proofs.Tryz.f58.ntmps (Go.Proofs.Tryz.f58.body.getD .skip) = true := by kernel_rfl
theorem ck273 : codeOk hn0 Go.Proofs.Tryz.f273.ntmps (Go.Proofs.Tryz.f273.body.getD .skip) = true := by kernel_rfl
theorem ck274 : codeOk hn0 Go.Proofs.Tryz.f274.ntmps (Go.Proofs.Tryz.f274.body.getD .skip) = true := by kernel_rfl
theorem ck205 : codeOk hn0 Go.Proofs.Tryz.f205.ntmps (Go.Proofs.Tryz.f205.body.getD .skip) = true := by kernel_rfl
theorem ck207 : codeOk hn0 Go.Proofs.Tryz.f207.ntmps (Go.Proofs.Tryz.f207.body.getD .skip) = true := by kernel_rfl
theorem ck125 : codeOk hn0 Go.Proofs.Tryz.f125.ntmps (Go.Proofs.Tryz.f125.body.getD .skip) = true := by kernel_rfl
theorem ck122 : codeOk hn0 Go.Proofs.Tryz.f122.ntmps (Go.Proofs.Tryz.f122.body.getD .skip) = true := by kernel_rfl
theorem ck200 : codeOk hn0 Go.Proofs.Tryz.f200.ntmps (Go.Proofs.Tryz.f200.body.getD .skip) = true := by kernel_rfl
theorem ck271 : codeOk hn0 Go.Proofs.Tryz.f271.ntmps (Go.Proofs.Tryz.f271.body.getD .skip) = true := by kernel_rfl
theorem ck202 : codeOk hn0 Go.Proofs.Tryz.f202.ntmps (Go.Proofs.Tryz.f202.body.getD .skip) = true := by kernel_rfl
theorem ck201 : codeOk hn0 Go.Proofs.Tryz.f201.ntmps (Go.Proofs.Tryz.f201.body.getD .skip) = true := by kernel_rfl
theorem ck124 : codeOk hn0 Go.Proofs.Tryz.f124.ntmps (Go.Proofs.Tryz.f124.body.getD .skip) = true := by kernel_rfl
theorem ck126 : codeOk hn0 Go.Proofs.Tryz.f126.ntmps (Go.Proofs.Tryz.f126.body.getD .skip) = true := by kernel_rfl
theorem ck131 : codeOk hn0 Go.Proofs.Tryz.f131.ntmps (Go.Proofs.Tryz.f131.body.getD .skip) = true := by kernel_rfl
theorem ck119 : codeOk hn0 Go.Proofs.Tryz.f119.ntmps (Go.Proofs.Tryz.f119.body.getD .skip) = true := by kernel_rfl
theorem ck118 : codeOk hn0 Go.Proofs.Tryz.f118.ntmps (Go.Proofs.Tryz.f118.body.getD .skip) = true := by kernel_rfl
theorem ck53 : codeOk hn0 Go.Proofs.Tryz.f53.ntmps (Go.Proofs.Tryz.f53.body.getD .skip) = true := by kernel_rfl
theorem ck120 : codeOk hn0 Go.Proofs.Tryz.f120.ntmps (Go.Proofs.Tryz.f120.body.getD .skip) = true := by kernel_rfl
theorem ck54 : codeOk hn0 Go.Proofs.Tryz.f54.ntmps (Go.Proofs.Tryz.f54.body.getD .skip) = true := by kernel_rfl
theorem ck127 : codeOk hn0 Go.Proofs.Tryz.f127.ntmps (Go.Proofs.Tryz.f127.body.getD .skip) = true := by kernel_rfl
theorem ck128 : codeOk hn0 Go.Proofs.Tryz.f128.ntmps (Go.Proofs.Tryz.f128.body.getD .skip) = true := by kernel_rfl
theorem ck211 : codeOk hn0 Go.Proofs.Tryz.f211.ntmps (Go.Proofs.Tryz.f211.body.getD .skip) = true := by kernel_rfl
theorem ck349 : codeOk hn0 Go.Proofs.Tryz.f349.ntmps (Go.Proofs.Tryz.f349.body.getD .skip) = true := by kernel_rfl
theorem ck350 : codeOk hn0 Go.Proofs.Tryz.f350.ntmps (Go.Proofs.Tryz.f350.body.getD .skip) = true := by kernel_rfl
theorem ck322 : codeOk hn0 Go.Proofs.Tryz.f322.ntmps (Go.Proofs.Tryz.f322.body.getD .skip) = true := by kernel_rfl
theorem ck277 : codeOk hn0 Go.Proofs.Tryz.f277.ntmps (Go.Proofs.Tryz.f277.body.getD .skip) = true := by kernel_rfl
theorem ck278 : codeOk hn0 Go.Proofs.Tryz.f278.ntmps (Go.Proofs.Tryz.f278.body.getD .skip) = true := by kernel_rfl
theorem ck212 : codeOk hn0 Go.Proofs.Tryz.f212.ntmps (Go.Proofs.Tryz.f212.body.getD .skip) = true := by kernel_rfl
theorem ck213 : codeOk hn0 Go.Proofs.Tryz.f213.ntmps (Go.Proofs.Tryz.f213.body.getD .skip) = true := by kernel_rfl
theorem ck129 : codeOk hn0 Go.Proofs.Tryz.f129.ntmps (Go.Proofs.Tryz.f129.body.getD .skip) = true := by kernel_rfl
theorem ck57 : codeOk hn0 Go.Proofs.Tryz.f57.ntmps (Go.Proofs.Tryz.f57.body.getD .skip) = true := by kernel_rfl
theorem ck56 : codeOk hn0 Go.Proofs.Tryz.f56.ntmps (Go.Proofs.Tryz.f56.body.getD .skip) = true := by kernel_rfl
theorem ck23 : codeOk hn0 Go.Proofs.Tryz.f23.ntmps (Go.Proofs.Tryz.f23.body.getD .skip) = true := by kernel_rfl
theorem ck7 : codeOk hn0 Go.Proofs.Tryz.f7.ntmps (Go.Proofs.Tryz.f7.body.getD .skip) = true := by kernel_rfl
theorem ck281 : codeOk hn0 Go.Proofs.Tryz.f281.ntmps (Go.Proofs.Tryz.f281.body.getD .skip) = true := by kernel_rfl
theorem ck217 : codeOk hn0 Go.Proofs.Tryz.f217.ntmps (Go.Proofs.Tryz.f217.body.getD .skip) = true := by kernel_rfl
theorem ck351 : codeOk hn0 Go.Proofs.Tryz.f351.ntmps (Go.Proofs.Tryz.f351.body.getD .skip) = true := by kernel_rfl
theorem ck369 : codeOk hn0 Go.Proofs.Tryz.f369.ntmps (Go.Proofs.Tryz.f369.body.getD .skip) = true := by kernel_rfl
theorem ck352 : codeOk hn0 Go.Proofs.Tryz.f352.ntmps (Go.Proofs.Tryz.f352.body.getD .skip) = true := by kernel_rfl
theorem ck353 : codeOk hn0 Go.Proofs.Tryz.f353.ntmps (Go.Proofs.Tryz.f353.body.getD .skip) = true := by kernel_rfl
theorem ck384 : codeOk hn0 Go.Proofs.Tryz.f384.ntmps (Go.Proofs.Tryz.f384.body.getD .skip) = true := by kernel_rfl
theorem ck371 : codeOk hn0 Go.Proofs.Tryz.f371.ntmps (Go.Proofs.Tryz.f371.body.getD .skip) = true := by kernel_rfl
theorem ck370 : codeOk hn0 Go.Proofs.Tryz.f370.ntmps (Go.Proofs.Tryz.f370.body.getD .skip) = true := by kernel_rfl
theorem ck354 : codeOk hn0 Go.Proofs.Tryz.f354.ntmps (Go.Proofs.Tryz.f354.body.getD .skip) = true := by kernel_rfl
theorem ck355 : codeOk hn0 Go.Proofs.Tryz.f355.ntmps (Go.Proofs.Tryz.f355.body.getD .skip) = true := by kernel_rfl
theorem ck356 : codeOk hn0 Go.Proofs.Tryz.f356.ntmps (Go.Proofs.Tryz.f356.body.getD .skip) = true := by kernel_rfl
theorem ck357 : codeOk hn0 Go.Proofs.Tryz.f357.ntmps (Go.Proofs.Tryz.f357.body.getD .skip) = true := by kernel_rfl
theorem ck358 : codeOk hn0 Go.Proofs.Tryz.f358.ntmps (Go.Proofs.Tryz.f358.body.getD .skip) = true := by kernel_rfl
theorem ck324 : codeOk hn0 Go.Proofs.Tryz.f324.ntmps (Go.Proofs.Tryz.f324.body.getD .skip) = true := by kernel_rfl
theorem ck282 : codeOk hn0 Go.Proofs.Tryz.f282.ntmps (Go.Proofs.Tryz.f282.body.getD .skip) = true := by kernel_rfl
theorem ck283 : codeOk hn0 Go.Proofs.Tryz.f283.ntmps (Go.Proofs.Tryz.f283.body.getD .skip) = true := by kernel_rfl
theorem ck218 : codeOk hn0 Go.Proofs.Tryz.f218.ntmps (Go.Proofs.Tryz.f218.body.getD .skip) = true := by kernel_rfl
theorem ck284 : codeOk hn0 Go.Proofs.Tryz.f284.ntmps (Go.Proofs.Tryz.f284.body.getD .skip) = true := by kernel_rfl
theorem ck219 : codeOk hn0 Go.Proofs.Tryz.f219.ntmps (Go.Proofs.Tryz.f219.body.getD .skip) = true := by kernel_rfl
theorem ck132 : codeOk hn0 Go.Proofs.Tryz.f132.ntmps (Go.Proofs.Tryz.f132.body.getD .skip) = true := by kernel_rfl
theorem ck61 : codeOk hn0 Go.Proofs.Tryz.f61.ntmps (Go.Proofs.Tryz.f61.body.getD .skip) = true := by kernel_rfl
theorem ck60 : codeOk hn0 Go.Proofs.Tryz.f60.ntmps (Go.Proofs.Tryz.f60.body.getD .skip) = true := by kernel_rfl
theorem ck24 : codeOk hn0 Go.Proofs.Tryz.f24.ntmps (Go.Proofs.Tryz.f24.body.getD .skip) = true := by kernel_rfl
theorem ck8 : codeOk hn0 Go.Proofs.Tryz.f8.ntmps (Go.Proofs.Tryz.f8.body.getD .skip) = true := by kernel_rfl
theorem ck220 : codeOk hn0 Go.Proofs.Tryz.f220.ntmps (Go.Proofs.Tryz.f220.body.getD .skip) = true := by kernel_rfl
theorem ck222 : codeOk hn0 Go.Proofs.Tryz.f222.ntmps (Go.Proofs.Tryz.f222.body.getD .skip) = true := by kernel_rfl
theorem ck223 : codeOk hn0 Go.Proofs.Tryz.f223.ntmps (Go.Proofs.Tryz.f223.body.getD .skip) = true := by kernel_rfl
theorem ck135 : codeOk hn0 Go.Proofs.Tryz.f135.ntmps (Go.Proofs.Tryz.f135.body.getD .skip) = true := by kernel_rfl
theorem ck325 : codeOk hn0 Go.Proofs.Tryz.f325.ntmps (Go.Proofs.Tryz.f325.body.getD .skip) = true := by kernel_rfl
theorem ck327 : codeOk hn0 Go.Proofs.Tryz.f327.ntmps (Go.Proofs.Tryz.f327.body.getD .skip) = true := by kernel_rfl
theorem ck359 : codeOk hn0 Go.Proofs.Tryz.f359.ntmps (Go.Proofs.Tryz.f359.body.getD .skip) = true := by kernel_rfl
theorem ck328 : codeOk hn0 Go.Proofs.Tryz.f328.ntmps (Go.Proofs.Tryz.f328.body.getD .skip) = true := by kernel_rfl
theorem ck329 : codeOk hn0 Go.Proofs.Tryz.f329.ntmps (Go.Proofs.Tryz.f329.body.getD .skip) = true := by kernel_rfl
theorem ck372 : codeOk hn0 Go.Proofs.Tryz.f372.ntmps (Go.Proofs.Tryz.f372.body.getD .skip) = true := by kernel_rfl
theorem ck360 : codeOk hn0 Go.Proofs.Tryz.f360.ntmps (Go.Proofs.Tryz.f360.body.getD .skip) = true := by kernel_rfl
theorem ck361 : codeOk hn0 Go.Proofs.Tryz.f361.ntmps (Go.Proofs.Tryz.f361.body.getD .skip) = true := by kernel_rfl
theorem ck330 : codeOk hn0 Go.Proofs.Tryz.f330.ntmps (Go.Proofs.Tryz.f330.body.getD .skip) = true := by kernel_rfl
theorem ck373 : codeOk hn0 Go.Proofs.Tryz.f373.ntmps (Go.Proofs.Tryz.f373.body.getD .skip) = true := by kernel_rfl
theorem ck362 : codeOk hn0 Go.Proofs.Tryz.f362.ntmps (Go.Proofs.Tryz.f362.body.getD .skip) = true := by kernel_rfl
theorem ck331 : codeOk hn0 Go.Proofs.Tryz.f331.ntmps (Go.Proofs.Tryz.f331.body.getD .skip) = true := by kernel_rfl
theorem ck287 : codeOk hn0 Go.Proofs.Tryz.f287.ntmps (Go.Proofs.Tryz.f287.body.getD .skip) = true := by kernel_rfl
theorem ck286 : codeOk hn0 Go.Proofs.Tryz.f286.ntmps (Go.Proofs.Tryz.f286.body.getD .skip) = true := by kernel_rfl
theorem ck225 : codeOk hn0 Go.Proofs.Tryz.f225.ntmps (Go.Proofs.Tryz.f225.body.getD .skip) = true := by kernel_rfl
theorem ck136 : codeOk hn0 Go.Proofs.Tryz.f136.ntmps (Go.Proofs.Tryz.f136.body.getD .skip) = true := by kernel_rfl
theorem ck137 : codeOk hn0 Go.Proofs.Tryz.f137.ntmps (Go.Proofs.Tryz.f137.body.getD .skip) = true := by kernel_rfl
theorem ck138 : codeOk hn0 Go.Proofs.Tryz.f138.ntmps (Go.Proofs.Tryz.f138.body.getD .skip) = true := by kernel_rfl
theorem ck139 : codeOk hn0 Go.Proofs.Tryz.f139.ntmps (Go.Proofs.Tryz.f139.body.getD .skip) = true := by kernel_rfl
theorem ck140 : codeOk hn0 Go.Proofs.Tryz.f140.ntmps (Go.Proofs.Tryz.f140.body.getD .skip) = true := by kernel_rfl
theorem ck288 : codeOk hn0 Go.Proofs.Tryz.f288.ntmps (Go.Proofs.Tryz.f288.body.getD .skip) = true := by kernel_rfl
theorem ck332 : codeOk hn0 Go.Proofs.Tryz.f332.ntmps (Go.Proofs.Tryz.f332.body.getD .skip) = true := by kernel_rfl
theorem ck289 : codeOk hn0 Go.Proofs.Tryz.f289.ntmps (Go.Proofs.Tryz.f289.body.getD .skip) = true := by kernel_rfl
theorem ck290 : codeOk hn0 Go.Proofs.Tryz.f290.ntmps (Go.Proofs.Tryz.f290.body.getD .skip) = true := by kernel_rfl
theorem ck363 : codeOk hn0 Go.Proofs.Tryz.f363.ntmps (Go.Proofs.Tryz.f363.body.getD .skip) = true := by kernel_rfl
theorem ck336 : codeOk hn0 Go.Proofs.Tryz.f336.ntmps (Go.Proofs.Tryz.f336.body.getD .skip) = true := by kernel_rfl
theorem ck335 : codeOk hn0 Go.Proofs.Tryz.f335.ntmps (Go.Proofs.Tryz.f335.body.getD .skip) = true := by kernel_rfl
theorem ck291 : codeOk hn0 Go.Proofs.Tryz.f291.ntmps (Go.Proofs.Tryz.f291.body.getD .skip) = true := by kernel_rfl
theorem ck292 : codeOk hn0 Go.Proofs.Tryz.f292.ntmps (Go.Proofs.Tryz.f292.body.getD .skip) = true := by kernel_rfl
theorem ck293 : codeOk hn0 Go.Proofs.Tryz.f293.ntmps (Go.Proofs.Tryz.f293.body.getD .skip) = true := by kernel_rfl
theorem ck294 : codeOk hn0 Go.Proofs.Tryz.f294.ntmps (Go.Proofs.Tryz.f294.body.getD .skip) = true := by kernel_rfl
theorem ck295 : codeOk hn0 Go.Proofs.Tryz.f295.ntmps (Go.Proofs.Tryz.f295.body.getD .skip) = true := by kernel_rfl
theorem ck226 : codeOk hn0 Go.Proofs.Tryz.f226.ntmps (Go.Proofs.Tryz.f226.body.getD .skip) = true := by kernel_rfl
theorem ck141 : codeOk hn0 Go.Proofs.Tryz.f141.ntmps (Go.Proofs.Tryz.f141.body.getD .skip) = true := by kernel_rfl
theorem ck63 : codeOk hn0 Go.Proofs.Tryz.f63.ntmps (Go.Proofs.Tryz.f63.body.getD .skip) = true := by kernel_rfl
theorem ck25 : codeOk hn0 Go.Proofs.Tryz.f25.ntmps (Go.Proofs.Tryz.f25.body.getD .skip) = true := by kernel_rfl
theorem ck26 : codeOk hn0 Go.Proofs.Tryz.f26.ntmps (Go.Proofs.Tryz.f26.body.getD .skip) = true := by kernel_rfl
theorem ck27 : codeOk hn0 Go.Proofs.Tryz.f27.ntmps (Go.Proofs.Tryz.f27.body.getD .skip) = true := by kernel_rfl
theorem ck9 : codeOk hn0 Go.Proofs.Tryz.f9.ntmps (Go.Proofs.Tryz.f9.body.getD .skip) = true := by kernel_rfl
theorem ck15 : codeOk hn0 Go.Proofs.Tryz.f15.ntmps (Go.Proofs.Tryz.f15.body.getD .skip) = true := by kernel_rfl
theorem ck160 : codeOk hn0 Go.Proofs.Tryz.f160.ntmps (Go.Proofs.Tryz.f160.body.getD .skip) = true := by kernel_rfl
theorem ck161 : codeOk hn0 Go.Proofs.Tryz.f161.ntmps (Go.Proofs.Tryz.f161.body.getD .skip) = true := by kernel_rfl
theorem ck84 : codeOk hn0 Go.Proofs.Tryz.f84.ntmps (Go.Proofs.Tryz.f84.body.getD .skip) = true := by kernel_rfl
theorem ck33 : codeOk hn0 Go.Proofs.Tryz.f33.ntmps (Go.Proofs.Tryz.f33.body.getD .skip) = true := by kernel_rfl
theorem ck338 : codeOk hn0 Go.Proofs.Tryz.f338.ntmps (Go.Proofs.Tryz.f338.body.getD .skip) = true := by kernel_rfl
theorem ck301 : codeOk hn0 Go.Proofs.Tryz.f301.ntmps (Go.Proofs.Tryz.f301.body.getD .skip) = true := by kernel_rfl
theorem ck239 : codeOk hn0 Go.Proofs.Tryz.f239.ntmps (Go.Proofs.Tryz.f239.body.getD .skip) = true := by kernel_rfl
theorem ck339 : codeOk hn0 Go.Proofs.Tryz.f339.ntmps (Go.Proofs.Tryz.f339.body.getD .skip) = true := by kernel_rfl
theorem ck375 : codeOk hn0 Go.Proofs.Tryz.f375.ntmps (Go.Proofs.Tryz.f375.body.getD .skip) = true := by kernel_rfl
theorem ck366 : codeOk hn0 Go.Proofs.Tryz.f366.ntmps (Go.Proofs.Tryz.f366.body.getD .skip) = true := by kernel_rfl
theorem ck340 : codeOk hn0 Go.Proofs.Tryz.f340.ntmps (Go.Proofs.Tryz.f340.body.getD .skip) = true := by kernel_rfl
theorem ck302 : codeOk hn0 Go.Proofs.Tryz.f302.ntmps (Go.Proofs.Tryz.f302.body.getD .skip) = true := by kernel_rfl
theorem ck240 : codeOk hn0 Go.Proofs.Tryz.f240.ntmps (Go.Proofs.Tryz.f240.body.getD .skip) = true := by kernel_rfl
theorem ck303 : codeOk hn0 Go.Proofs.Tryz.f303.ntmps (Go.Proofs.Tryz.f303.body.getD .skip) = true := by kernel_rfl
theorem ck241 : codeOk hn0 Go.Proofs.Tryz.f241.ntmps (Go.Proofs.Tryz.f241.body.getD .skip) = true := by kernel_rfl
theorem ck162 : codeOk hn0 Go.Proofs.Tryz.f162.ntmps (Go.Proofs.Tryz.f162.body.getD .skip) = true := by kernel_rfl
theorem ck85 : codeOk hn0 Go.Proofs.Tryz.f85.ntmps (Go.Proofs.Tryz.f85.body.getD .skip) = true := by kernel_rfl
theorem ck34 : codeOk hn0 Go.Proofs.Tryz.f34.ntmps (Go.Proofs.Tryz.f34.body.getD .skip) = true := by kernel_rfl
theorem ck35 : codeOk hn0 Go.Proofs.Tryz.f35.ntmps (Go.Proofs.Tryz.f35.body.getD .skip) = true := by kernel_rfl
theorem ck12 : codeOk hn0 Go.Proofs.Tryz.f12.ntmps (Go.Proofs.Tryz.f12.body.getD .skip) = true := by kernel_rfl
theorem ck14 : codeOk hn0 Go.Proofs.Tryz.f14.ntmps (Go.Proofs.Tryz.f14.body.getD .skip) = true := by kernel_rfl
theorem ck16 : codeOk hn0 Go.Proofs.Tryz.f16.ntmps (Go.Proofs.Tryz.f16.body.getD .skip) = true := by kernel_rfl
theorem ck3 : codeOk hn0 Go.Proofs.Tryz.f3.ntmps (Go.Proofs.Tryz.f3.body.getD .skip) = true := by kernel_rfl
theorem fnAll : FnAll Go.Proofs.Tryz.prog fnl := .code (c := Go.Proofs.Tryz.f40.body.getD .skip) Go.Proofs.Tryz.func40 rfl ck40 Go.Proofs.Tryz.call40 (.code (c := Go.Proofs.Tryz.f28.body.getD .skip) Go.Proofs.Tryz.func28 rfl ck28 Go.Proofs.Tryz.call28 (.code (c := Go.Proofs.Tryz.f10.body.getD .skip) Go.Proofs.Tryz.func10 rfl ck10 Go.Proofs.Tryz.call10 (.code (c := Go.Proofs.Tryz.f64.body.getD .skip) Go.Proofs.Tryz.func64 rfl ck64 Go.Proofs.Tryz.call64 (.code (c := Go.Proofs.Tryz.f68.body.getD .skip) Go.Proofs.Tryz.func68 rfl ck68 Go.Proofs.Tryz.call68 (.code (c := Go.Proofs.Tryz.f69.body.getD .skip) Go.Proofs.Tryz.func69 rfl ck69 Go.Proofs.Tryz.call69 (.intr (.code (c := Go.Proofs.Tryz.f70.body.getD .skip) Go.Proofs.Tryz.func70 rfl ck70 Go.Proofs.Tryz.call70 (.code (c := Go.Proofs.Tryz.f229.body.getD .skip) Go.Proofs.Tryz.func229 rfl ck229 Go.Proofs.Tryz.call229 (.code (c := Go.Proofs.Tryz.f149.body.getD .skip) Go.Proofs.Tryz.func149 rfl ck149 Go.Proofs.Tryz.call149 (.code (c := Go.Proofs.Tryz.f150.body.getD .skip) Go.Proofs.Tryz.func150 rfl ck150 Go.Proofs.Tryz.call150 (.code (c := Go.Proofs.Tryz.f71.body.getD .skip) Go.Proofs.Tryz.func71 rfl ck71 Go.Proofs.Tryz.call71 (.code (c := Go.Proofs.Tryz.f72.body.getD .skip) Go.Proofs.Tryz.func72 rfl ck72 Go.Proofs.Tryz.call72 (.intr (.code (c := Go.Proofs.Tryz.f151.body.getD .skip) Go.Proofs.Tryz.func151 rfl ck151 Go.Proofs.Tryz.call151 (.code (c := Go.Proofs.Tryz.f73.body.getD .skip) Go.Proofs.Tryz.func73 rfl ck73 Go.Proofs.Tryz.call73 (.code (c := Go.Proofs.Tryz.f74.body.getD .skip) Go.Proofs.Tryz.func74 rfl ck74 Go.Proofs.Tryz.call74 (.code (c := Go.Proofs.Tryz.f152.body.getD .skip) Go.Proofs.Tryz.func152 rfl ck152 Go.Proofs.Tryz.call152 (.code (c := Go.Proofs.Tryz.f76.body.getD .skip) Go.Proofs.Tryz.func76 rfl ck76 Go.Proofs.Tryz.call76 (.code (c := Go.Proofs.Tryz.f77.body.getD .skip) Go.Proofs.Tryz.func77 rfl ck77 Go.Proofs.Tryz.call77 (.code (c := Go.Proofs.Tryz.f145.body.getD .skip) Go.Proofs.Tryz.func145 rfl ck145 Go.Proofs.Tryz.call145 (.code (c := Go.Proofs.Tryz.f75.body.getD .skip) Go.Proofs.Tryz.func75 rfl ck75 Go.Proofs.Tryz.call75 (.code (c := Go.Proofs.Tryz.f224.body.getD .skip) Go.Proofs.Tryz.func224 rfl ck224 Go.Proofs.Tryz.call224 (.code (c := Go.Proofs.Tryz.f298.body.getD .skip) Go.Proofs.Tryz.func298 rfl ck298 Go.Proofs.Tryz.call298 (.code (c := Go.Proofs.Tryz.f230.body.getD .skip) Go.Proofs.Tryz.func230 rfl ck230 Go.Proofs.Tryz.call230 (.code (c := Go.Proofs.Tryz.f299.body.getD .skip) Go.Proofs.Tryz.func299 rfl ck299 Go.Proofs.Tryz.call299 (.code (c := Go.Proofs.Tryz.f231.body.getD .skip) Go.Proofs.Tryz.func231 rfl ck231 Go.Proofs.Tryz.call231 (.intr (.code (c := Go.Proofs.Tryz.f300.body.getD .skip) Go.Proofs.Tryz.func300 rfl ck300 Go.Proofs.Tryz.call300 (.code (c := Go.Proofs.Tryz.f232.body.getD .skip) Go.Proofs.Tryz.func232 rfl ck232 Go.Proofs.Tryz.call232 (.code (c := Go.Proofs.Tryz.f153.body.getD .skip) Go.Proofs.Tryz.func153 rfl ck153 Go.Proofs.Tryz.call153 (.code (c := Go.Proofs.Tryz.f233.body.getD .skip) Go.Proofs.Tryz.func233 rfl ck233 Go.Proofs.Tryz.call233 (.code (c := Go.Proofs.Tryz.f154.body.getD .skip) Go.Proofs.Tryz.func154 rfl ck154 Go.Proofs.Tryz.call154 (.code (c := Go.Proofs.Tryz.f234.body.getD .skip) Go.Proofs.Tryz.func234 rfl ck234 Go.Proofs.Tryz.call234 (.code (c := Go.Proofs.Tryz.f235.body.getD .skip) Go.Proofs.Tryz.func235 rfl ck235 Go.Proofs.Tryz.call235 (.code (c := Go.Proofs.Tryz.f142.body.getD .skip) Go.Proofs.Tryz.func142 rfl ck142 Go.Proofs.Tryz.call142 (.code (c := Go.Proofs.Tryz.f143.body.getD .skip) Go.Proofs.Tryz.func143 rfl ck143 Go.Proofs.Tryz.call143 (.code (c := Go.Proofs.Tryz.f86.body.getD .skip) Go.Proofs.Tryz.func86 rfl ck86 Go.Proofs.Tryz.call86 (.code (c := Go.Proofs.Tryz.f158.body.getD .skip) Go.Proofs.Tryz.func158 rfl ck158 Go.Proofs.Tryz.call158 (.code (c := Go.Proofs.Tryz.f144.body.getD .skip) Go.Proofs.Tryz.func144 rfl ck144 Go.Proofs.Tryz.call144 (.code (c := Go.Proofs.Tryz.f65.body.getD .skip) Go.Proofs.Tryz.func65 rfl ck65 Go.Proofs.Tryz.call65 (.code (c := Go.Proofs.Tryz.f237.body.getD .skip) Go.Proofs.Tryz.func237 rfl ck237 Go.Proofs.Tryz.call237 (.code (c := Go.Proofs.Tryz.f236.body.getD .skip) Go.Proofs.Tryz.func236 rfl ck236 Go.Proofs.Tryz.call236 (.code (c := Go.Proofs.Tryz.f155.body.getD .skip) Go.Proofs.Tryz.func155 rfl ck155 Go.Proofs.Tryz.call155 (.code (c := Go.Proofs.Tryz.f78.body.getD .skip) Go.Proofs.Tryz.func78 rfl ck78 Go.Proofs.Tryz.call78 (.intr (.code (c := Go.Proofs.Tryz.f156.body.getD .skip) Go.Proofs.Tryz.func156 rfl ck156 Go.Proofs.Tryz.call156 (.code (c := Go.Proofs.Tryz.f79.body.getD .skip) Go.Proofs.Tryz.func79 rfl ck79 Go.Proofs.Tryz.call79 (.code (c := Go.Proofs.Tryz.f80.body.getD .skip) Go.Proofs.Tryz.func80 rfl ck80 Go.Proofs.Tryz.call80 (.code (c := Go.Proofs.Tryz.f238.body.getD .skip) Go.Proofs.Tryz.func238 rfl ck238 Go.Proofs.Tryz.call238 (.code (c := Go.Proofs.Tryz.f157.body.getD .skip) Go.Proofs.Tryz.func157 rfl ck157 Go.Proofs.Tryz.call157 (.code (c := Go.Proofs.Tryz.f81.body.getD .skip) Go.Proofs.Tryz.func81 rfl ck81 Go.Proofs.Tryz.call81 (.code (c := Go.Proofs.Tryz.f159.body.getD .skip) Go.Proofs.Tryz.func159 rfl ck159 Go.Proofs.Tryz.call159 (.code (c := Go.Proofs.Tryz.f83.body.getD .skip) Go.Proofs.Tryz.func83 rfl ck83 Go.Proofs.Tryz.call83 (.code (c := Go.Proofs.Tryz.f31.body.getD .skip) Go.Proofs.Tryz.func31 rfl ck31 Go.Proofs.Tryz.call31 (.code (c := Go.Proofs.Tryz.f134.body.getD .skip) Go.Proofs.Tryz.func134 rfl ck134 Go.Proofs.Tryz.call134 (.code (c := Go.Proofs.Tryz.f62.body.getD .skip) Go.Proofs.Tryz.func62 rfl ck62 Go.Proofs.Tryz.call62 (.code (c := Go.Proofs.Tryz.f29.body.getD .skip) Go.Proofs.Tryz.func29 rfl ck29 Go.Proofs.Tryz.call29 (.code (c := Go.Proofs.Tryz.f36.body.getD .skip) Go.Proofs.Tryz.func36 rfl ck36 Go.Proofs.Tryz.call36 (.code (c := Go.Proofs.Tryz.f66.body.getD .skip) Go.Proofs.Tryz.func66 rfl ck66 Go.Proofs.Tryz.call66 (.code (c := Go.Proofs.Tryz.f170.body.getD .skip) Go.Proofs.Tryz.func170 rfl ck170 Go.Proofs.Tryz.call170 (.code (c := Go.Proofs.Tryz.f184.body.getD .skip) Go.Proofs.Tryz.func184 rfl ck184 Go.Proofs.Tryz.call184 (.code (c := Go.Proofs.Tryz.f167.body.getD .skip) Go.Proofs.Tryz.func167 rfl ck167 Go.Proofs.Tryz.call167 (.code (c := Go.Proofs.Tryz.f304.body.getD .skip) Go.Proofs.Tryz.func304 rfl ck304 Go.Proofs.Tryz.call304 (.code (c := Go.Proofs.Tryz.f250.body.getD .skip) Go.Proofs.Tryz.func250 rfl ck250 Go.Proofs.Tryz.call250 (.code (c := Go.Proofs.Tryz.f251.body.getD .skip) Go.Proofs.Tryz.func251 rfl ck251 Go.Proofs.Tryz.call251 (.code (c := Go.Proofs.Tryz.f180.body.getD .skip) Go.Proofs.Tryz.func180 rfl ck180 Go.Proofs.Tryz.call180 (.code (c := Go.Proofs.Tryz.f249.body.getD .skip) Go.Proofs.Tryz.func249 rfl ck249 Go.Proofs.Tryz.call249 (.code (c := Go.Proofs.Tryz.f166.body.getD .skip) Go.Proofs.Tryz.func166 rfl ck166 Go.Proofs.Tryz.call166 (.code (c := Go.Proofs.Tryz.f305.body.getD .skip) Go.Proofs.Tryz.func305 rfl ck305 Go.Proofs.Tryz.call305 (.code (c := Go.Proofs.Tryz.f253.body.getD .skip) Go.Proofs.Tryz.func253 rfl ck253 Go.Proofs.Tryz.call253 (.intr (.code (c := Go.Proofs.Tryz.f185.body.getD .skip) Go.Proofs.Tryz.func185 rfl ck185 Go.Proofs.Tryz.call185 (.code (c := Go.Proofs.Tryz.f113.body.getD .skip) Go.Proofs.Tryz.func113 rfl ck113 Go.Proofs.Tryz.call113 (.code (c := Go.Proofs.Tryz.f204.body.getD .skip) Go.Proofs.Tryz.func204 rfl ck204 Go.Proofs.Tryz.call204 (.code (c := Go.Proofs.Tryz.f318.body.getD .skip) Go.Proofs.Tryz.func318 rfl ck318 Go.Proofs.Tryz.call318 (.code (c := Go.Proofs.Tryz.f347.body.getD .skip) Go.Proofs.Tryz.func347 rfl ck347 Go.Proofs.Tryz.call347 (.code (c := Go.Proofs.Tryz.f319.body.getD .skip) Go.Proofs.Tryz.func319 rfl ck319 Go.Proofs.Tryz.call319 (.code (c := Go.Proofs.Tryz.f320.body.getD .skip) Go.Proofs.Tryz.func320 rfl ck320 Go.Proofs.Tryz.call320 (.code (c := Go.Proofs.Tryz.f272.body.getD .skip) Go.Proofs.Tryz.func272 rfl ck272 Go.Proofs.Tryz.call272 (.code (c := Go.Proofs.Tryz.f203.body.getD .skip) Go.Proofs.Tryz.func203 rfl ck203 Go.Proofs.Tryz.call203 (.code (c := Go.Proofs.Tryz.f208.body.getD .skip) Go.Proofs.Tryz.func208 rfl ck208 Go.Proofs.Tryz.call208 (.code (c := Go.Proofs.Tryz.f146.body.getD .skip) Go.Proofs.Tryz.func146 rfl ck146 Go.Proofs.Tryz.call146 (.code (c := Go.Proofs.Tryz.f228.body.getD .skip) Go.Proofs.Tryz.func228 rfl ck228 Go.Proofs.Tryz.call228 (.code (c := Go.Proofs.Tryz.f147.body.getD .skip) Go.Proofs.Tryz.func147 rfl ck147 Go.Proofs.Tryz.call147 (.code (c := Go.Proofs.Tryz.f210.body.getD .skip) Go.Proofs.Tryz.func210 rfl ck210 Go.Proofs.Tryz.call210 (.code (c := Go.Proofs.Tryz.f209.body.getD .skip) Go.Proofs.Tryz.func209 rfl ck209 Go.Proofs.Tryz.call209 (.code (c := Go.Proofs.Tryz.f148.body.getD .skip) Go.Proofs.Tryz.func148 rfl ck148 Go.Proofs.Tryz.call148 (.code (c := Go.Proofs.Tryz.f67.body.getD .skip) Go.Proofs.Tryz.func67 rfl ck67 Go.Proofs.Tryz.call67 (.code (c := Go.Proofs.Tryz.f30.body.getD .skip) Go.Proofs.Tryz.func30 rfl ck30 Go.Proofs.Tryz.call30 (.code (c := Go.Proofs.Tryz.f32.body.getD .skip) Go.Proofs.Tryz.func32 rfl ck32 Go.Proofs.Tryz.call32 (.code (c := Go.Proofs.Tryz.f11.body.getD .skip) Go.Proofs.Tryz.func11 rfl ck11 Go.Proofs.Tryz.call11 (.code (c := Go.Proofs.Tryz.f4.body.getD .skip) Go.Proofs.Tryz.func4 rfl ck4 Go.Proofs.Tryz.call4 (.code (c := Go.Proofs.Tryz.f37.body.getD .skip) Go.Proofs.Tryz.func37 rfl ck37 Go.Proofs.Tryz.call37 (.code (c := Go.Proofs.Tryz.f17.body.getD .skip) Go.Proofs.Tryz.func17 rfl ck17 Go.Proofs.Tryz.call17 (.code (c := Go.Proofs.Tryz.f88.body.getD .skip) Go.Proofs.Tryz.func88 rfl ck88 Go.Proofs.Tryz.call88 (.code (c := Go.Proofs.Tryz.f89.body.getD .skip) Go.Proofs.Tryz.func89 rfl ck89 Go.Proofs.Tryz.call89 (.code (c := Go.Proofs.Tryz.f38.body.getD .skip) Go.Proofs.Tryz.func38 rfl ck38 Go.Proofs.Tryz.call38 (.code (c := Go.Proofs.Tryz.f18.body.getD .skip) Go.Proofs.Tryz.func18 rfl ck18 Go.Proofs.Tryz.call18 (.code (c := Go.Proofs.Tryz.f5.body.getD .skip) Go.Proofs.Tryz.func5 rfl ck5 Go.Proofs.Tryz.call5 (.code (c := Go.Proofs.Tryz.f13.body.getD .skip) Go.Proofs.Tryz.func13 rfl ck13 Go.Proofs.Tryz.call13 (.code (c := Go.Proofs.Tryz.f188.body.getD .skip) Go.Proofs.Tryz.func188 rfl ck188 Go.Proofs.Tryz.call188 (.code (c := Go.Proofs.Tryz.f186.body.getD .skip) Go.Proofs.Tryz.func186 rfl ck186 Go.Proofs.Tryz.call186 (.code (c := Go.Proofs.Tryz.f96.body.getD .skip) Go.Proofs.Tryz.func96 rfl ck96 Go.Proofs.Tryz.call96 (.intr (.code (c := Go.Proofs.Tryz.f187.body.getD .skip) Go.Proofs.Tryz.func187 rfl ck187 Go.Proofs.Tryz.call187 (.code (c := Go.Proofs.Tryz.f189.body.getD .skip) Go.Proofs.Tryz.func189 rfl ck189 Go.Proofs.Tryz.call189 (.code (c := Go.Proofs.Tryz.f190.body.getD .skip) Go.Proofs.Tryz.func190 rfl ck190 Go.Proofs.Tryz.call190 (.code (c := Go.Proofs.Tryz.f116.body.getD .skip) Go.Proofs.Tryz.func116 rfl ck116 Go.Proofs.Tryz.call116 (.code (c := Go.Proofs.Tryz.f49.body.getD .skip) Go.Proofs.Tryz.func49 rfl ck49 Go.Proofs.Tryz.call49 (.code (c := Go.Proofs.Tryz.f90.body.getD .skip) Go.Proofs.Tryz.func90 rfl ck90 Go.Proofs.Tryz.call90 (.code (c := Go.Proofs.Tryz.f87.body.getD .skip) Go.Proofs.Tryz.func87 rfl ck87 Go.Proofs.Tryz.call87 (.code (c := Go.Proofs.Tryz.f285.body.getD .skip) Go.Proofs.Tryz.func285 rfl ck285 Go.Proofs.Tryz.call285 (.code (c := Go.Proofs.Tryz.f221.body.getD .skip) Go.Proofs.Tryz.func221 rfl ck221 Go.Proofs.Tryz.call221 (.code (c := Go.Proofs.Tryz.f244.body.getD .skip) Go.Proofs.Tryz.func244 rfl ck244 Go.Proofs.Tryz.call244 (.code (c := Go.Proofs.Tryz.f168.body.getD .skip) Go.Proofs.Tryz.func168 rfl ck168 Go.Proofs.Tryz.call168 (.code (c := Go.Proofs.Tryz.f245.body.getD .skip) Go.Proofs.Tryz.func245 rfl ck245 Go.Proofs.Tryz.call245 (.code (c := Go.Proofs.Tryz.f169.body.getD .skip) Go.Proofs.Tryz.func169 rfl ck169 Go.Proofs.Tryz.call169 (.code (c := Go.Proofs.Tryz.f95.body.getD .skip) Go.Proofs.Tryz.func95 rfl ck95 Go.Proofs.Tryz.call95 (.intr (.code (c := Go.Proofs.Tryz.f266.body.getD .skip) Go.Proofs.Tryz.func266 rfl ck266 Go.Proofs.Tryz.call266 (.code (c := Go.Proofs.Tryz.f267.body.getD .skip) Go.Proofs.Tryz.func267 rfl ck267 Go.Proofs.Tryz.call267 (.code (c := Go.Proofs.Tryz.f174.body.getD .skip) Go.Proofs.Tryz.func174 rfl ck174 Go.Proofs.Tryz.call174 (.code (c := Go.Proofs.Tryz.f175.body.getD .skip) Go.Proofs.Tryz.func175 rfl ck175 Go.Proofs.Tryz.call175 (.code (c := Go.Proofs.Tryz.f268.body.getD .skip) Go.Proofs.Tryz.func268 rfl ck268 Go.Proofs.Tryz.call268 (.code (c := Go.Proofs.Tryz.f197.body.getD .skip) Go.Proofs.Tryz.func197 rfl ck197 Go.Proofs.Tryz.call197 (.code (c := Go.Proofs.Tryz.f315.body.getD .skip) Go.Proofs.Tryz.func315 rfl ck315 Go.Proofs.Tryz.call315 (.code (c := Go.Proofs.Tryz.f269.body.getD .skip) Go.Proofs.Tryz.func269 rfl ck269 Go.Proofs.Tryz.call269 (.code (c := Go.Proofs.Tryz.f198.body.getD .skip) Go.Proofs.Tryz.func198 rfl ck198 Go.Proofs.Tryz.call198 (.code (c := Go.Proofs.Tryz.f94.body.getD .skip) Go.Proofs.Tryz.func94 rfl ck94 Go.Proofs.Tryz.call94 (.intr (.code (c := Go.Proofs.Tryz.f317.body.getD .skip) Go.Proofs.Tryz.func317 rfl ck317 Go.Proofs.Tryz.call317 (.code (c := Go.Proofs.Tryz.f316.body.getD .skip) Go.Proofs.Tryz.func316 rfl ck316 Go.Proofs.Tryz.call316 (.code (c := Go.Proofs.Tryz.f270.body.getD .skip) Go.Proofs.Tryz.func270 rfl ck270 Go.Proofs.Tryz.call270 (.code (c := Go.Proofs.Tryz.f199.body.getD .skip) Go.Proofs.Tryz.func199 rfl ck199 Go.Proofs.Tryz.call199 (.code (c := Go.Proofs.Tryz.f123.body.getD .skip) Go.Proofs.Tryz.func123 rfl ck123 Go.Proofs.Tryz.call123 (.code (c := Go.Proofs.Tryz.f163.body.getD .skip) Go.Proofs.Tryz.func163 rfl ck163 Go.Proofs.Tryz.call163 (.code (c := Go.Proofs.Tryz.f91.body.getD .skip) Go.Proofs.Tryz.func91 rfl ck91 Go.Proofs.Tryz.call91 (.code (c := Go.Proofs.Tryz.f323.body.getD .skip) Go.Proofs.Tryz.func323 rfl ck323 Go.Proofs.Tryz.call323 (.code (c := Go.Proofs.Tryz.f279.body.getD .skip) Go.Proofs.Tryz.func279 rfl ck279 Go.Proofs.Tryz.call279 (.code (c := Go.Proofs.Tryz.f280.body.getD .skip) Go.Proofs.Tryz.func280 rfl ck280 Go.Proofs.Tryz.call280 (.code (c := Go.Proofs.Tryz.f309.body.getD .skip) Go.Proofs.Tryz.func309 rfl ck309 Go.Proofs.Tryz.call309 (.code (c := Go.Proofs.Tryz.f296.body.getD .skip) Go.Proofs.Tryz.func296 rfl ck296 Go.Proofs.Tryz.call296 (.code (c := Go.Proofs.Tryz.f297.body.getD .skip) Go.Proofs.Tryz.func297 rfl ck297 Go.Proofs.Tryz.call297 (.code (c := Go.Proofs.Tryz.f227.body.getD .skip) Go.Proofs.Tryz.func227 rfl ck227 Go.Proofs.Tryz.call227 (.code (c := Go.Proofs.Tryz.f376.body.getD .skip) Go.Proofs.Tryz.func376 rfl ck376 Go.Proofs.Tryz.call376 (.code (c := Go.Proofs.Tryz.f385.body.getD .skip) Go.Proofs.Tryz.func385 rfl ck385 Go.Proofs.Tryz.call385 (.code (c := Go.Proofs.Tryz.f377.body.getD .skip) Go.Proofs.Tryz.func377 rfl ck377 Go.Proofs.Tryz.call377 (.code (c := Go.Proofs.Tryz.f333.body.getD .skip) Go.Proofs.Tryz.func333 rfl ck333 Go.Proofs.Tryz.call333 (.code (c := Go.Proofs.Tryz.f334.body.getD .skip) Go.Proofs.Tryz.func334 rfl ck334 Go.Proofs.Tryz.call334 (.code (c := Go.Proofs.Tryz.f378.body.getD .skip) Go.Proofs.Tryz.func378 rfl ck378 Go.Proofs.Tryz.call378 (.code (c := Go.Proofs.Tryz.f388.body.getD .skip) Go.Proofs.Tryz.func388 rfl ck388 Go.Proofs.Tryz.call388 (.code (c := Go.Proofs.Tryz.f387.body.getD .skip) Go.Proofs.Tryz.func387 rfl ck387 Go.Proofs.Tryz.call387 (.code (c := Go.Proofs.Tryz.f386.body.getD .skip) Go.Proofs.Tryz.func386 rfl ck386 Go.Proofs.Tryz.call386 (.code (c := Go.Proofs.Tryz.f379.body.getD .skip) Go.Proofs.Tryz.func379 rfl ck379 Go.Proofs.Tryz.call379 (.code (c := Go.Proofs.Tryz.f380.body.getD .skip) Go.Proofs.Tryz.func380 rfl ck380 Go.Proofs.Tryz.call380 (.code (c := Go.Proofs.Tryz.f381.body.getD .skip) Go.Proofs.Tryz.func381 rfl ck381 Go.Proofs.Tryz.call381 (.code (c := Go.Proofs.Tryz.f382.body.getD .skip) Go.Proofs.Tryz.func382 rfl ck382 Go.Proofs.Tryz.call382 (.code (c := Go.Proofs.Tryz.f383.body.getD .skip) Go.Proofs.Tryz.func383 rfl ck383 Go.Proofs.Tryz.call383 (.code (c := Go.Proofs.Tryz.f368.body.getD .skip) Go.Proofs.Tryz.func368 rfl ck368 Go.Proofs.Tryz.call368 (.code (c := Go.Proofs.Tryz.f344.body.getD .skip) Go.Proofs.Tryz.func344 rfl ck344 Go.Proofs.Tryz.call344 (.code (c := Go.Proofs.Tryz.f345.body.getD .skip) Go.Proofs.Tryz.func345 rfl ck345 Go.Proofs.Tryz.call345 (.code (c := Go.Proofs.Tryz.f310.body.getD .skip) Go.Proofs.Tryz.func310 rfl ck310 Go.Proofs.Tryz.call310 (.code (c := Go.Proofs.Tryz.f312.body.getD .skip) Go.Proofs.Tryz.func312 rfl ck312 Go.Proofs.Tryz.call312 (.intr (.code (c := Go.Proofs.Tryz.f308.body.getD .skip) Go.Proofs.Tryz.func308 rfl ck308 Go.Proofs.Tryz.call308 (.code (c := Go.Proofs.Tryz.f256.body.getD .skip) Go.Proofs.Tryz.func256 rfl ck256 Go.Proofs.Tryz.call256 (.code (c := Go.Proofs.Tryz.f255.body.getD .skip) Go.Proofs.Tryz.func255 rfl ck255 Go.Proofs.Tryz.call255 (.code (c := Go.Proofs.Tryz.f191.body.getD .skip) Go.Proofs.Tryz.func191 rfl ck191 Go.Proofs.Tryz.call191 (.code (c := Go.Proofs.Tryz.f257.body.getD .skip) Go.Proofs.Tryz.func257 rfl ck257 Go.Proofs.Tryz.call257 (.code (c := Go.Proofs.Tryz.f242.body.getD .skip) Go.Proofs.Tryz.func242 rfl ck242 Go.Proofs.Tryz.call242 (.code (c := Go.Proofs.Tryz.f164.body.getD .skip) Go.Proofs.Tryz.func164 rfl ck164 Go.Proofs.Tryz.call164 (.code (c := Go.Proofs.Tryz.f171.body.getD .skip) Go.Proofs.Tryz.func171 rfl ck171 Go.Proofs.Tryz.call171 (.code (c := Go.Proofs.Tryz.f172.body.getD .skip) Go.Proofs.Tryz.func172 rfl ck172 Go.Proofs.Tryz.call172 (.code (c := Go.Proofs.Tryz.f246.body.getD .skip) Go.Proofs.Tryz.func246 rfl ck246 Go.Proofs.Tryz.call246 (.code (c := Go.Proofs.Tryz.f173.body.getD .skip) Go.Proofs.Tryz.func173 rfl ck173 Go.Proofs.Tryz.call173 (.code (c := Go.Proofs.Tryz.f98.body.getD .skip) Go.Proofs.Tryz.func98 rfl ck98 Go.Proofs.Tryz.call98 (.code (c := Go.Proofs.Tryz.f99.body.getD .skip) Go.Proofs.Tryz.func99 rfl ck99 Go.Proofs.Tryz.call99 (.code (c := Go.Proofs.Tryz.f101.body.getD .skip) Go.Proofs.Tryz.func101 rfl ck101 Go.Proofs.Tryz.call101 (.code (c := Go.Proofs.Tryz.f108.body.getD .skip) Go.Proofs.Tryz.func108 rfl ck108 Go.Proofs.Tryz.call108 (.code (c := Go.Proofs.Tryz.f115.body.getD .skip) Go.Proofs.Tryz.func115 rfl ck115 Go.Proofs.Tryz.call115 (.code (c := Go.Proofs.Tryz.f243.body.getD .skip) Go.Proofs.Tryz.func243 rfl ck243 Go.Proofs.Tryz.call243 (.code (c := Go.Proofs.Tryz.f165.body.getD .skip) Go.Proofs.Tryz.func165 rfl ck165 Go.Proofs.Tryz.call165 (.code (c := Go.Proofs.Tryz.f92.body.getD .skip) Go.Proofs.Tryz.func92 rfl ck92 Go.Proofs.Tryz.call92 (.code (c := Go.Proofs.Tryz.f93.body.getD .skip) Go.Proofs.Tryz.func93 rfl ck93 Go.Proofs.Tryz.call93 (.code (c := Go.Proofs.Tryz.f39.body.getD .skip) Go.Proofs.Tryz.func39 rfl ck39 Go.Proofs.Tryz.call39 (.code (c := Go.Proofs.Tryz.f41.body.getD .skip) Go.Proofs.Tryz.func41 rfl ck41 Go.Proofs.Tryz.call41 (.code (c := Go.Proofs.Tryz.f19.body.getD .skip) Go.Proofs.Tryz.func19 rfl ck19 Go.Proofs.Tryz.call19 (.code (c := Go.Proofs.Tryz.f100.body.getD .skip) Go.Proofs.Tryz.func100 rfl ck100 Go.Proofs.Tryz.call100 (.code (c := Go.Proofs.Tryz.f102.body.getD .skip) Go.Proofs.Tryz.func102 rfl ck102 Go.Proofs.Tryz.call102 (.code (c := Go.Proofs.Tryz.f247.body.getD .skip) Go.Proofs.Tryz.func247 rfl ck247 Go.Proofs.Tryz.call247 (.code (c := Go.Proofs.Tryz.f176.body.getD .skip) Go.Proofs.Tryz.func176 rfl ck176 Go.Proofs.Tryz.call176 (.code (c := Go.Proofs.Tryz.f248.body.getD .skip) Go.Proofs.Tryz.func248 rfl ck248 Go.Proofs.Tryz.call248 (.code (c := Go.Proofs.Tryz.f177.body.getD .skip) Go.Proofs.Tryz.func177 rfl ck177 Go.Proofs.Tryz.call177 (.code (c := Go.Proofs.Tryz.f103.body.getD .skip) Go.Proofs.Tryz.func103 rfl ck103 Go.Proofs.Tryz.call103 (.code (c := Go.Proofs.Tryz.f42.body.getD .skip) Go.Proofs.Tryz.func42 rfl ck42 Go.Proofs.Tryz.call42 (.code (c := Go.Proofs.Tryz.f104.body.getD .skip) Go.Proofs.Tryz.func104 rfl ck104 Go.Proofs.Tryz.call104 (.code (c := Go.Proofs.Tryz.f43.body.getD .skip) Go.Proofs.Tryz.func43 rfl ck43 Go.Proofs.Tryz.call43 (.code (c := Go.Proofs.Tryz.f20.body.getD .skip) Go.Proofs.Tryz.func20 rfl ck20 Go.Proofs.Tryz.call20 (.code (c := Go.Proofs.Tryz.f6.body.getD .skip) Go.Proofs.Tryz.func6 rfl ck6 Go.Proofs.Tryz.call6 (.code (c := Go.Proofs.Tryz.f105.body.getD .skip) Go.Proofs.Tryz.func105 rfl ck105 Go.Proofs.Tryz.call105 (.code (c := Go.Proofs.Tryz.f106.body.getD .skip) Go.Proofs.Tryz.func106 rfl ck106 Go.Proofs.Tryz.call106 (.code (c := Go.Proofs.Tryz.f406.body.getD .skip) Go.Proofs.Tryz.func406 rfl ck406 Go.Proofs.Tryz.call406 (.code (c := Go.Proofs.Tryz.f414.body.getD .skip) Go.Proofs.Tryz.func414 rfl ck414 Go.Proofs.Tryz.call414 (.code (c := Go.Proofs.Tryz.f44.body.getD .skip) Go.Proofs.Tryz.func44 rfl ck44 Go.Proofs.Tryz.call44 (.code (c := Go.Proofs.Tryz.f405.body.getD .skip) Go.Proofs.Tryz.func405 rfl ck405 Go.Proofs.Tryz.call405 (.code (c := Go.Proofs.Tryz.f420.body.getD .skip) Go.Proofs.Tryz.func420 rfl ck420 Go.Proofs.Tryz.call420 (.code (c := Go.Proofs.Tryz.f413.body.getD .skip) Go.Proofs.Tryz.func413 rfl ck413 Go.Proofs.Tryz.call413 (.code (c := Go.Proofs.Tryz.f21.body.getD .skip) Go.Proofs.Tryz.func21 rfl ck21 Go.Proofs.Tryz.call21 (.code (c := Go.Proofs.Tryz.f22.body.getD .skip) Go.Proofs.Tryz.func22 rfl ck22 Go.Proofs.Tryz.call22 (.code (c := Go.Proofs.Tryz.f107.body.getD .skip) Go.Proofs.Tryz.func107 rfl ck107 Go.Proofs.Tryz.call107 (.code (c := Go.Proofs.Tryz.f45.body.getD .skip) Go.Proofs.Tryz.func45 rfl ck45 Go.Proofs.Tryz.call45 (.code (c := Go.Proofs.Tryz.f178.body.getD .skip) Go.Proofs.Tryz.func178 rfl ck178 Go.Proofs.Tryz.call178 (.code (c := Go.Proofs.Tryz.f109.body.getD .skip) Go.Proofs.Tryz.func109 rfl ck109 Go.Proofs.Tryz.call109 (.code (c := Go.Proofs.Tryz.f46.body.getD .skip) Go.Proofs.Tryz.func46 rfl ck46 Go.Proofs.Tryz.call46 (.code (c := Go.Proofs.Tryz.f179.body.getD .skip) Go.Proofs.Tryz.func179 rfl ck179 Go.Proofs.Tryz.call179 (.intr (.code (c := Go.Proofs.Tryz.f182.body.getD .skip) Go.Proofs.Tryz.func182 rfl ck182 Go.Proofs.Tryz.call182 (.code (c := Go.Proofs.Tryz.f111.body.getD .skip) Go.Proofs.Tryz.func111 rfl ck111 Go.Proofs.Tryz.call111 (.code (c := Go.Proofs.Tryz.f110.body.getD .skip) Go.Proofs.Tryz.func110 rfl ck110 Go.Proofs.Tryz.call110 (.code (c := Go.Proofs.Tryz.f47.body.getD .skip) Go.Proofs.Tryz.func47 rfl ck47 Go.Proofs.Tryz.call47 (.code (c := Go.Proofs.Tryz.f114.body.getD .skip) Go.Proofs.Tryz.func114 rfl ck114 Go.Proofs.Tryz.call114 (.code (c := Go.Proofs.Tryz.f48.body.getD .skip) Go.Proofs.Tryz.func48 rfl ck48 Go.Proofs.Tryz.call48 (.code (c := Go.Proofs.Tryz.f50.body.getD .skip) Go.Proofs.Tryz.func50 rfl ck50 Go.Proofs.Tryz.call50 (.code (c := Go.Proofs.Tryz.f51.body.getD .skip) Go.Proofs.Tryz.func51 rfl ck51 Go.Proofs.Tryz.call51 (.code (c := Go.Proofs.Tryz.f52.body.getD .skip) Go.Proofs.Tryz.func52 rfl ck52 Go.Proofs.Tryz.call52 (.code (c := Go.Proofs.Tryz.f193.body.getD .skip) Go.Proofs.Tryz.func193 rfl ck193 Go.Proofs.Tryz.call193 (.code (c := Go.Proofs.Tryz.f259.body.getD .skip) Go.Proofs.Tryz.func259 rfl ck259 Go.Proofs.Tryz.call259 (.code (c := Go.Proofs.Tryz.f264.body.getD .skip) Go.Proofs.Tryz.func264 rfl ck264 Go.Proofs.Tryz.call264 (.code (c := Go.Proofs.Tryz.f263.body.getD .skip) Go.Proofs.Tryz.func263 rfl ck263 Go.Proofs.Tryz.call263 (.code (c := Go.Proofs.Tryz.f194.body.getD .skip) Go.Proofs.Tryz.func194 rfl ck194 Go.Proofs.Tryz.call194 (.code (c := Go.Proofs.Tryz.f258.body.getD .skip) Go.Proofs.Tryz.func258 rfl ck258 Go.Proofs.Tryz.call258 (.code (c := Go.Proofs.Tryz.f265.body.getD .skip) Go.Proofs.Tryz.func265 rfl ck265 Go.Proofs.Tryz.call265 (.code (c := Go.Proofs.Tryz.f311.body.getD .skip) Go.Proofs.Tryz.func311 rfl ck311 Go.Proofs.Tryz.call311 (.code (c := Go.Proofs.Tryz.f313.body.getD .skip) Go.Proofs.Tryz.func313 rfl ck313 Go.Proofs.Tryz.call313 (.code (c := Go.Proofs.Tryz.f261.body.getD .skip) Go.Proofs.Tryz.func261 rfl ck261 Go.Proofs.Tryz.call261 (.code (c := Go.Proofs.Tryz.f262.body.getD .skip) Go.Proofs.Tryz.func262 rfl ck262 Go.Proofs.Tryz.call262 (.code (c := Go.Proofs.Tryz.f195.body.getD .skip) Go.Proofs.Tryz.func195 rfl ck195 Go.Proofs.Tryz.call195 (.code (c := Go.Proofs.Tryz.f196.body.getD .skip) Go.Proofs.Tryz.func196 rfl ck196 Go.Proofs.Tryz.call196 (.code (c := Go.Proofs.Tryz.f121.body.getD .skip) Go.Proofs.Tryz.func121 rfl ck121 Go.Proofs.Tryz.call121 (.code (c := Go.Proofs.Tryz.f55.body.getD .skip) Go.Proofs.Tryz.func55 rfl ck55 Go.Proofs.Tryz.call55 (.code (c := Go.Proofs.Tryz.f260.body.getD .skip) Go.Proofs.Tryz.func260 rfl ck260 Go.Proofs.Tryz.call260 (.code (c := Go.Proofs.Tryz.f214.body.getD .skip) Go.Proofs.Tryz.func214 rfl ck214 Go.Proofs.Tryz.call214 (.code (c := Go.Proofs.Tryz.f215.body.getD .skip) Go.Proofs.Tryz.func215 rfl ck215 Go.Proofs.Tryz.call215 (.code (c := Go.Proofs.Tryz.f130.body.getD .skip) Go.Proofs.Tryz.func130 rfl ck130 Go.Proofs.Tryz.call130 (.code (c := Go.Proofs.Tryz.f59.body.getD .skip) Go.Proofs.Tryz.func59 rfl ck59 Go.Proofs.Tryz.call59 (.code (c := Go.Proofs.Tryz.f192.body.getD .skip) Go.Proofs.Tryz.func192 rfl ck192 Go.Proofs.Tryz.call192 (.code (c := Go.Proofs.Tryz.f117.body.getD .skip) Go.Proofs.Tryz.func117 rfl ck117 Go.Proofs.Tryz.call117 (.code (c := Go.Proofs.Tryz.f58.body.getD .skip) Go.Proofs.Tryz.func58 rfl ck58 Go.Proofs.Tryz.call58 (.code (c := Go.Proofs.Tryz.f273.body.getD .skip) Go.Proofs.Tryz.func273 rfl ck273 Go.Proofs.Tryz.call273 (.code (c := Go.Proofs.Tryz.f274.body.getD .skip) Go.Proofs.Tryz.func274 rfl ck274 Go.Proofs.Tryz.call274 (.code (c := Go.Proofs.Tryz.f205.body.getD .skip) Go.Proofs.Tryz.func205 rfl ck205 Go.Proofs.Tryz.call205 (.intr (.code (c := Go.Proofs.Tryz.f207.body.getD .skip) Go.Proofs.Tryz.func207 rfl ck207 Go.Proofs.Tryz.call207 (.code (c := Go.Proofs.Tryz.f125.body.getD .skip) Go.Proofs.Tryz.func125 rfl ck125 Go.Proofs.Tryz.call125 (.code (c := Go.Proofs.Tryz.f122.body.getD .skip) Go.Proofs.Tryz.func122 rfl ck122 Go.Proofs.Tryz.call122 (.code (c := Go.Proofs.Tryz.f200.body.getD .skip) Go.Proofs.Tryz.func200 rfl ck200 Go.Proofs.Tryz.call200 (.code (c := Go.Proofs.Tryz.f271.body.getD .skip) Go.Proofs.Tryz.func271 rfl ck271 Go.Proofs.Tryz.call271 (.code (c := Go.Proofs.Tryz.f202.body.getD .skip) Go.Proofs.Tryz.func202 rfl ck202 Go.Proofs.Tryz.call202 (.code (c := Go.Proofs.Tryz.f201.body.getD .skip) Go.Proofs.Tryz.func201 rfl ck201 Go.Proofs.Tryz.call201 (.code (c := Go.Proofs.Tryz.f124.body.getD .skip) Go.Proofs.Tryz.func124 rfl ck124 Go.Proofs.Tryz.call124 (.code (c := Go.Proofs.Tryz.f126.body.getD .skip) Go.Proofs.Tryz.func126 rfl ck126 Go.Proofs.Tryz.call126 (.intr (.code (c := Go.Proofs.Tryz.f131.body.getD .skip) Go.Proofs.Tryz.func131 rfl ck131 Go.Proofs.Tryz.call131 (.code (c := Go.Proofs.Tryz.f119.body.getD .skip) Go.Proofs.Tryz.func119 rfl ck119 Go.Proofs.Tryz.call119 (.code (c := Go.Proofs.Tryz.f118.body.getD .skip) Go.Proofs.Tryz.func118 rfl ck118 Go.Proofs.Tryz.call118 (.code (c := Go.Proofs.Tryz.f53.body.getD .skip) Go.Proofs.Tryz.func53 rfl ck53 Go.Proofs.Tryz.call53 (.code (c := Go.Proofs.Tryz.f120.body.getD .skip) Go.Proofs.Tryz.func120 rfl ck120 Go.Proofs.Tryz.call120 (.code (c := Go.Proofs.Tryz.f54.body.getD .skip) Go.Proofs.Tryz.func54 rfl ck54 Go.Proofs.Tryz.call54 (.code (c := Go.Proofs.Tryz.f127.body.getD .skip) Go.Proofs.Tryz.func127 rfl ck127 Go.Proofs.Tryz.call127 (.code (c := Go.Proofs.Tryz.f128.body.getD .skip) Go.Proofs.Tryz.func128 rfl ck128 Go.Proofs.Tryz.call128 (.code (c := Go.Proofs.Tryz.f211.body.getD .skip) Go.Proofs.Tryz.func211 rfl ck211 Go.Proofs.Tryz.call211 (.code (c := Go.Proofs.Tryz.f349.body.getD .skip) Go.Proofs.Tryz.func349 rfl ck349 Go.Proofs.Tryz.call349 (.code (c := Go.Proofs.Tryz.f350.body.getD .skip) Go.Proofs.Tryz.func350 rfl ck350 Go.Proofs.Tryz.call350 (.code (c := Go.Proofs.Tryz.f322.body.getD .skip) Go.Proofs.Tryz.func322 rfl ck322 Go.Proofs.Tryz.call322 (.code (c := Go.Proofs.Tryz.f277.body.getD .skip) Go.Proofs.Tryz.func277 rfl ck277 Go.Proofs.Tryz.call277 (.code (c := Go.Proofs.Tryz.f278.body.getD .skip) Go.Proofs.Tryz.func278 rfl ck278 Go.Proofs.Tryz.call278 (.code (c := Go.Proofs.Tryz.f212.body.getD .skip) Go.Proofs.Tryz.func212 rfl ck212 Go.Proofs.Tryz.call212 (.code (c := Go.Proofs.Tryz.f213.body.getD .skip) Go.Proofs.Tryz.func213 rfl ck213 Go.Proofs.Tryz.call213 (.code (c := Go.Proofs.Tryz.f129.body.getD .skip) Go.Proofs.Tryz.func129 rfl ck129 Go.Proofs.Tryz.call129 (.code (c := Go.Proofs.Tryz.f57.body.getD .skip) Go.Proofs.Tryz.func57 rfl ck57 Go.Proofs.Tryz.call57 (.code (c := Go.Proofs.Tryz.f56.body.getD .skip) Go.Proofs.Tryz.func56 rfl ck56 Go.Proofs.Tryz.call56 (.code (c := Go.Proofs.Tryz.f23.body.getD .skip) Go.Proofs.Tryz.func23 rfl ck23 Go.Proofs.Tryz.call23 (.code (c := Go.Proofs.Tryz.f7.body.getD .skip) Go.Proofs.Tryz.func7 rfl ck7 Go.Proofs.Tryz.call7 (.code (c := Go.Proofs.Tryz.f281.body.getD .skip) Go.Proofs.Tryz.func281 rfl ck281 Go.Proofs.Tryz.call281 (.code (c := Go.Proofs.Tryz.f217.body.getD .skip) Go.Proofs.Tryz.func217 rfl ck217 Go.Proofs.Tryz.call217 (.code (c := Go.Proofs.Tryz.f351.body.getD .skip) Go.Proofs.Tryz.func351 rfl ck351 Go.Proofs.Tryz.call351 (.code (c := Go.Proofs.Tryz.f369.body.getD .skip) Go.Proofs.Tryz.func369 rfl ck369 Go.Proofs.Tryz.call369 (.code (c := Go.Proofs.Tryz.f352.body.getD .skip) Go.Proofs.Tryz.func352 rfl ck352 Go.Proofs.Tryz.call352 (.code (c := Go.Proofs.Tryz.f353.body.getD .skip) Go.Proofs.Tryz.func353 rfl ck353 Go.Proofs.Tryz.call353 (.code (c := Go.Proofs.Tryz.f384.body.getD .skip) Go.Proofs.Tryz.func384 rfl ck384 Go.Proofs.Tryz.call384 (.code (c := Go.Proofs.Tryz.f371.body.getD .skip) Go.Proofs.Tryz.func371 rfl ck371 Go.Proofs.Tryz.call371 (.code (c := Go.Proofs.Tryz.f370.body.getD .skip) Go.Proofs.Tryz.func370 rfl ck370 Go.Proofs.Tryz.call370 (.code (c := Go.Proofs.Tryz.f354.body.getD .skip) Go.Proofs.Tryz.func354 rfl ck354 Go.Proofs.Tryz.call354 (.code (c := Go.Proofs.Tryz.f355.body.getD .skip) Go.Proofs.Tryz.func355 rfl ck355 Go.Proofs.Tryz.call355 (.code (c := Go.Proofs.Tryz.f356.body.getD .skip) Go.Proofs.Tryz.func356 rfl ck356 Go.Proofs.Tryz.call356 (.code (c := Go.Proofs.Tryz.f357.body.getD .skip) Go.Proofs.Tryz.func357 rfl ck357 Go.Proofs.Tryz.call357 (.code (c := Go.Proofs.Tryz.f358.body.getD .skip) Go.Proofs.Tryz.func358 rfl ck358 Go.Proofs.Tryz.call358 (.code (c := Go.Proofs.Tryz.f324.body.getD .skip) Go.Proofs.Tryz.func324 rfl ck324 Go.Proofs.Tryz.call324 (.code (c := Go.Proofs.Tryz.f282.body.getD .skip) Go.Proofs.Tryz.func282 rfl ck282 Go.Proofs.Tryz.call282 (.code (c := Go.Proofs.Tryz.f283.body.getD .skip) Go.Proofs.Tryz.func283 rfl ck283 Go.Proofs.Tryz.call283 (.code (c := Go.Proofs.Tryz.f218.body.getD .skip) Go.Proofs.Tryz.func218 rfl ck218 Go.Proofs.Tryz.call218 (.code (c := Go.Proofs.Tryz.f284.body.getD .skip) Go.Proofs.Tryz.func284 rfl ck284 Go.Proofs.Tryz.call284 (.code (c := Go.Proofs.Tryz.f219.body.getD .skip) Go.Proofs.Tryz.func219 rfl ck219 Go.Proofs.Tryz.call219 (.code (c := Go.Proofs.Tryz.f132.body.getD .skip) Go.Proofs.Tryz.func132 rfl ck132 Go.Proofs.Tryz.call132 (.code (c := Go.Proofs.Tryz.f61.body.getD .skip) Go.Proofs.Tryz.func61 rfl ck61 Go.Proofs.Tryz.call61 (.code (c := Go.Proofs.Tryz.f60.body.getD .skip) Go.Proofs.Tryz.func60 rfl ck60 Go.Proofs.Tryz.call60 (.code (c := Go.Proofs.Tryz.f24.body.getD .skip) Go.Proofs.Tryz.func24 rfl ck24 Go.Proofs.Tryz.call24 (.code (c := Go.Proofs.Tryz.f8.body.getD .skip) Go.Proofs.Tryz.func8 rfl ck8 Go.Proofs.Tryz.call8 (.code (c := Go.Proofs.Tryz.f220.body.getD .skip) Go.Proofs.Tryz.func220 rfl ck220 Go.Proofs.Tryz.call220 (.code (c := Go.Proofs.Tryz.f222.body.getD .skip) Go.Proofs.Tryz.func222 rfl ck222 Go.Proofs.Tryz.call222 (.code (c := Go.Proofs.Tryz.f223.body.getD .skip) Go.Proofs.Tryz.func223 rfl ck223 Go.Proofs.Tryz.call223 (.code (c := Go.Proofs.Tryz.f135.body.getD .skip) Go.Proofs.Tryz.func135 rfl ck135 Go.Proofs.Tryz.call135 (.code (c := Go.Proofs.Tryz.f325.body.getD .skip) Go.Proofs.Tryz.func325 rfl ck325 Go.Proofs.Tryz.call325 (.intr (.code (c := Go.Proofs.Tryz.f327.body.getD .skip) Go.Proofs.Tryz.func327 rfl ck327 Go.Proofs.Tryz.call327 (.code (c := Go.Proofs.Tryz.f359.body.getD .skip) Go.Proofs.Tryz.func359 rfl ck359 Go.Proofs.Tryz.call359 (.code (c := Go.Proofs.Tryz.f328.body.getD .skip) Go.Proofs.Tryz.func328 rfl ck328 Go.Proofs.Tryz.call328 (.code (c := Go.Proofs.Tryz.f329.body.getD .skip) Go.Proofs.Tryz.func329 rfl ck329 Go.Proofs.Tryz.call329 (.code (c := Go.Proofs.Tryz.f372.body.getD .skip) Go.Proofs.Tryz.func372 rfl ck372 Go.Proofs.Tryz.call372 (.code (c := Go.Proofs.Tryz.f360.body.getD .skip) Go.Proofs.Tryz.func360 rfl ck360 Go.Proofs.Tryz.call360 (.code (c := Go.Proofs.Tryz.f361.body.getD .skip) Go.Proofs.Tryz.func361 rfl ck361 Go.Proofs.Tryz.call361 (.code (c := Go.Proofs.Tryz.f330.body.getD .skip) Go.Proofs.Tryz.func330 rfl ck330 Go.Proofs.Tryz.call330 (.code (c := Go.Proofs.Tryz.f373.body.getD .skip) Go.Proofs.Tryz.func373 rfl ck373 Go.Proofs.Tryz.call373 (.code (c := Go.Proofs.Tryz.f362.body.getD .skip) Go.Proofs.Tryz.func362 rfl ck362 Go.Proofs.Tryz.call362 (.code (c := Go.Proofs.Tryz.f331.body.getD .skip) Go.Proofs.Tryz.func331 rfl ck331 Go.Proofs.Tryz.call331 (.code (c := Go.Proofs.Tryz.f287.body.getD .skip) Go.Proofs.Tryz.func287 rfl ck287 Go.Proofs.Tryz.call287 (.code (c := Go.Proofs.Tryz.f286.body.getD .skip) Go.Proofs.Tryz.func286 rfl ck286 Go.Proofs.Tryz.call286 (.code (c := Go.Proofs.Tryz.f225.body.getD .skip) Go.Proofs.Tryz.func225 rfl ck225 Go.Proofs.Tryz.call225 (.code (c := Go.Proofs.Tryz.f136.body.getD .skip) Go.Proofs.Tryz.func136 rfl ck136 Go.Proofs.Tryz.call136 (.code (c := Go.Proofs.Tryz.f137.body.getD .skip) Go.Proofs.Tryz.func137 rfl ck137 Go.Proofs.Tryz.call137 (.code (c := Go.Proofs.Tryz.f138.body.getD .skip) Go.Proofs.Tryz.func138 rfl ck138 Go.Proofs.Tryz.call138 (.code (c := Go.Proofs.Tryz.f139.body.getD .skip) Go.Proofs.Tryz.func139 rfl ck139 Go.Proofs.Tryz.call139 (.code (c := Go.Proofs.Tryz.f140.body.getD .skip) Go.Proofs.Tryz.func140 rfl ck140 Go.Proofs.Tryz.call140 (.code (c := Go.Proofs.Tryz.f288.body.getD .skip) Go.Proofs.Tryz.func288 rfl ck288 Go.Proofs.Tryz.call288 (.code (c := Go.Proofs.Tryz.f332.body.getD .skip) Go.Proofs.Tryz.func332 rfl ck332 Go.Proofs.Tryz.call332 (.code (c := Go.Proofs.Tryz.f289.body.getD .skip) Go.Proofs.Tryz.func289 rfl ck289 Go.Proofs.Tryz.call289 (.code (c := Go.Proofs.Tryz.f290.body.getD .skip) Go.Proofs.Tryz.func290 rfl ck290 Go.Proofs.Tryz.call290 (.code (c := Go.Proofs.Tryz.f363.body.getD .skip) Go.Proofs.Tryz.func363 rfl ck363 Go.Proofs.Tryz.call363 (.code (c := Go.Proofs.Tryz.f336.body.getD .skip) Go.Proofs.Tryz.func336 rfl ck336 Go.Proofs.Tryz.call336 (.code (c := Go.Proofs.Tryz.f335.body.getD .skip) Go.Proofs.Tryz.func335 rfl ck335 Go.Proofs.Tryz.call335 (.code (c := Go.Proofs.Tryz.f291.body.getD .skip) Go.Proofs.Tryz.func291 rfl ck291 Go.Proofs.Tryz.call291 (.code (c := Go.Proofs.Tryz.f292.body.getD .skip) Go.Proofs.Tryz.func292 rfl ck292 Go.Proofs.Tryz.call292 (.code (c := Go.Proofs.Tryz.f293.body.getD .skip) Go.Proofs.Tryz.func293 rfl ck293 Go.Proofs.Tryz.call293 (.code (c := Go.Proofs.Tryz.f294.body.getD .skip) Go.Proofs.Tryz.func294 rfl ck294 Go.Proofs.Tryz.call294 (.code (c := Go.Proofs.Tryz.f295.body.getD .skip) Go.Proofs.Tryz.func295 rfl ck295 Go.Proofs.Tryz.call295 (.code (c := Go.Proofs.Tryz.f226.body.getD .skip) Go.Proofs.Tryz.func226 rfl ck226 Go.Proofs.Tryz.call226 (.code (c := Go.Proofs.Tryz.f141.body.getD .skip) Go.Proofs.Tryz.func141 rfl ck141 Go.Proofs.Tryz.call141 (.code (c := Go.Proofs.Tryz.f63.body.getD .skip) Go.Proofs.Tryz.func63 rfl ck63 Go.Proofs.Tryz.call63 (.code (c := Go.Proofs.Tryz.f25.body.getD .skip) Go.Proofs.Tryz.func25 rfl ck25 Go.Proofs.Tryz.call25 (.code (c := Go.Proofs.Tryz.f26.body.getD .skip) Go.Proofs.Tryz.func26 rfl ck26 Go.Proofs.Tryz.call26 (.code (c := Go.Proofs.Tryz.f27.body.getD .skip) Go.Proofs.Tryz.func27 rfl ck27 Go.Proofs.Tryz.call27 (.code (c := Go.Proofs.Tryz.f9.body.getD .skip) Go.Proofs.Tryz.func9 rfl ck9 Go.Proofs.Tryz.call9 (.code (c := Go.Proofs.Tryz.f15.body.getD .skip) Go.Proofs.Tryz.func15 rfl ck15 Go.Proofs.Tryz.call15 (.code (c := Go.Proofs.Tryz.f160.body.getD .skip) Go.Proofs.Tryz.func160 rfl ck160 Go.Proofs.Tryz.call160 (.code (c := Go.Proofs.Tryz.f161.body.getD .skip) Go.Proofs.Tryz.func161 rfl ck161 Go.Proofs.Tryz.call161 (.code (c := Go.Proofs.Tryz.f84.body.getD .skip) Go.Proofs.Tryz.func84 rfl ck84 Go.Proofs.Tryz.call84 (.code (c := Go.Proofs.Tryz.f33.body.getD .skip) Go.Proofs.Tryz.func33 rfl ck33 Go.Proofs.Tryz.call33 (.code (c := Go.Proofs.Tryz.f338.body.getD .skip) Go.Proofs.Tryz.func338 rfl ck338 Go.Proofs.Tryz.call338 (.code (c := Go.Proofs.Tryz.f301.body.getD .skip) Go.Proofs.Tryz.func301 rfl ck301 Go.Proofs.Tryz.call301 (.code (c := Go.Proofs.Tryz.f239.body.getD .skip) Go.Proofs.Tryz.func239 rfl ck239 Go.Proofs.Tryz.call239 (.code (c := Go.Proofs.Tryz.f339.body.getD .skip) Go.Proofs.Tryz.func339 rfl ck339 Go.Proofs.Tryz.call339 (.code (c := Go.Proofs.Tryz.f375.body.getD .skip) Go.Proofs.Tryz.func375 rfl ck375 Go.Proofs.Tryz.call375 (.code (c := Go.Proofs.Tryz.f366.body.getD .skip) Go.Proofs.Tryz.func366 rfl ck366 Go.Proofs.Tryz.call366 (.code (c := Go.Proofs.Tryz.f340.body.getD .skip) Go.Proofs.Tryz.func340 rfl ck340 Go.Proofs.Tryz.call340 (.code (c := Go.Proofs.Tryz.f302.body.getD .skip) Go.Proofs.Tryz.func302 rfl ck302 Go.Proofs.Tryz.call302 (.code (c := Go.Proofs.Tryz.f240.body.getD .skip) Go.Proofs.Tryz.func240 rfl ck240 Go.Proofs.Tryz.call240 (.intr (.code (c := Go.Proofs.Tryz.f303.body.getD .skip) Go.Proofs.Tryz.func303 rfl ck303 Go.Proofs.Tryz.call303 (.code (c := Go.Proofs.Tryz.f241.body.getD .skip) Go.Proofs.Tryz.func241 rfl ck241 Go.Proofs.Tryz.call241 (.code (c := Go.Proofs.Tryz.f162.body.getD .skip) Go.Proofs.Tryz.func162 rfl ck162 Go.Proofs.Tryz.call162 (.code (c := Go.Proofs.Tryz.f85.body.getD .skip) Go.Proofs.Tryz.func85 rfl ck85 Go.Proofs.Tryz.call85 (.code (c := Go.Proofs.Tryz.f34.body.getD .skip) Go.Proofs.Tryz.func34 rfl ck34 Go.Proofs.Tryz.call34 (.code (c := Go.Proofs.Tryz.f35.body.getD .skip) Go.Proofs.Tryz.func35 rfl ck35 Go.Proofs.Tryz.call35 (.code (c := Go.Proofs.Tryz.f12.body.getD .skip) Go.Proofs.Tryz.func12 rfl ck12 Go.Proofs.Tryz.call12 (.code (c := Go.Proofs.Tryz.f14.body.getD .skip) Go.Proofs.Tryz.func14 rfl ck14 Go.Proofs.Tryz.call14 (.code (c := Go.Proofs.Tryz.f16.body.getD .skip) Go.Proofs.Tryz.func16 rfl ck16 Go.Proofs.Tryz.call16 (.code (c := Go.Proofs.Tryz.f3.body.getD .skip) Go.Proofs.Tryz.func3 rfl ck3 Go.Proofs.Tryz.call3 (.nil))))))))))))))))))))))))))))))))))))))))))))))))))))))))))))))))))))))))))))))))))))))))))))))))))))))))))))))))))))))))))))))))))))))))))))))))))))))))))))))))))))))))))))))))))))))))))))))))))))))))))))))))))))))))))))))))))))))))))))))))))))))))))))))))))))))))))))))))))))))))))))))))))))))))))))))))))))))))))))))))))))))))))))))))))))))))))))))))))))))))))))))))))))))))))
theorem fnsOk : FnsOk Go.Proofs.Tryz.prog fns := fnsOk_of fnAll (by intro q hq; exact of_blt (l := fnl) (by kernel_rfl) q hq)
end Go.XS.Tryz
/- The contracts of a run. -/
namespace Go.XS.Tryz
open Go Go.TS
theorem ix133 : IxR1 iSectors (Go.TS.Tryz.c133 (sector_Disk_Sectors Go.TS.Tryz.tau)) := ⟨iSectors_ch, fun γ φ ags H h vs q K hx hR hv hK => iSectors_R (τ := Go.TS.Tryz.tau) (fun d h K hh => hh) γ φ ags H h vs q K hx hR hv hK⟩
theorem ix112 : IxR1 iWord (Go.TS.Tryz.c112 (octet_Word Go.TS.Tryz.tau)) := ⟨iWord_ch, fun γ φ ags H h vs q K hx hR hv hK => iWord_R (τ := Go.TS.Tryz.tau) (fun s n m h K hh => hh) γ φ ags H h vs q K hx hR hv hK⟩
theorem ix337 : IxR1 iParts (Go.TS.Tryz.c337 (crc_Parts Go.TS.Tryz.tau)) := ⟨iParts_ch, fun γ φ ags H h vs q K hx hR hv hK => iParts_R (τ := Go.TS.Tryz.tau) (fun s h K hh => hh) γ φ ags H h vs q K hx hR hv hK⟩
theorem ix82 : IxR1 iFlush (Go.TS.Tryz.c82 (sector_Disk_Flush Go.TS.Tryz.tau)) := ⟨iFlush_ch, fun γ φ ags H h vs q K hx hR hv hK => iFlush_R (τ := Go.TS.Tryz.tau) (fun d h K hh => hh) γ φ ags H h vs q K hx hR hv hK⟩
theorem ix254 : IxR1 iInsert (Go.TS.Tryz.c254 (slices_Insert_int_int Go.TS.Tryz.tau)) := ⟨iInsert_ch, fun γ φ ags H h vs q K hx hR hv hK => iInsert_R (τ := Go.TS.Tryz.tau) (fun s x n h K hh => hh) γ φ ags H h vs q K hx hR hv hK⟩
theorem ix97 : IxR1 iRdWord (Go.TS.Tryz.c97 (octet_Reader_Word Go.TS.Tryz.tau)) := ⟨iRdWord_ch, fun γ φ ags H h vs q K hx hR hv hK => iRdWord_R (τ := Go.TS.Tryz.tau) (fun d m h K hh => hh) γ φ ags H h vs q K hx hR hv hK⟩
theorem ix314 : IxR1 (iZeros 267) (Go.TS.Tryz.c314 (slices_IndexFunc_byte_byte Go.TS.Tryz.tau)) := ⟨iZeros_ch 267, fun γ φ ags H h vs q K hx hR hv hK => iZeros_R (τ := Go.TS.Tryz.tau) (fun s h K hh => hh) γ φ ags H h vs q K hx hR hv hK⟩
theorem ix346 : IxR1 iBRead (Go.TS.Tryz.c346 (bucket_Read Go.TS.Tryz.tau)) := ⟨iBRead_ch, fun γ φ ags H h vs q K hx hR hv hK => iBRead_R (τ := Go.TS.Tryz.tau) (fun s h K hh => hh) γ φ ags H h vs q K hx hR hv hK⟩
theorem ix343 : IxR1 iNoughts (Go.TS.Tryz.c343 (slots_noughts Go.TS.Tryz.tau)) := ⟨iNoughts_ch, fun γ φ ags H h vs q K hx hR hv hK => iNoughts_R (τ := Go.TS.Tryz.tau) (fun s h K hh => hh) γ φ ags H h vs q K hx hR hv hK⟩
theorem ix181 : IxR1 iDelete (Go.TS.Tryz.c181 (slices_Delete_int_int Go.TS.Tryz.tau)) := ⟨iDelete_ch, fun γ φ ags H h vs q K hx hR hv hK => iDelete_R (τ := Go.TS.Tryz.tau) (fun s n m h K hh => hh) γ φ ags H h vs q K hx hR hv hK⟩
theorem ix206 : IxR1 iInsertR (Go.TS.Tryz.c206 (slices_Insert_api_Ref_api_Ref Go.TS.Tryz.tau)) := ⟨iInsertR_ch, fun γ φ ags H h vs q K hx hR hv hK => iInsertR_R (τ := Go.TS.Tryz.tau) (fun s x n h K hh => hh) γ φ ags H h vs q K hx hR hv hK⟩
theorem ix216 : IxR1 iDelR (Go.TS.Tryz.c216 (slices_Delete_api_Ref_api_Ref Go.TS.Tryz.tau)) := ⟨iDelR_ch, fun γ φ ags H h vs q K hx hR hv hK => iDelR_R (τ := Go.TS.Tryz.tau) (fun s n m h K hh => hh) γ φ ags H h vs q K hx hR hv hK⟩
theorem ix326 : IxR1 iTrimR (Go.TS.Tryz.c326 (bytes_trimRightByte Go.TS.Tryz.tau)) := ⟨iTrimR_ch, fun γ φ ags H h vs q K hx hR hv hK => iTrimR_R (τ := Go.TS.Tryz.tau) (fun s n h K hh => hh) γ φ ags H h vs q K hx hR hv hK⟩
theorem ix341 : IxR1 iCompare (pX Go.Proofs.Tryz.prog 341) := iCompare_R1 Go.Proofs.Tryz.func341 (by kernel_rfl) (by kernel_rfl) (by kernel_rfl) (by kernel_rfl)
def ixl : List (Nat × CallP) := [(133, Go.TS.Tryz.c133 (sector_Disk_Sectors Go.TS.Tryz.tau)), (112, Go.TS.Tryz.c112 (octet_Word Go.TS.Tryz.tau)), (337, Go.TS.Tryz.c337 (crc_Parts Go.TS.Tryz.tau)), (82, Go.TS.Tryz.c82 (sector_Disk_Flush Go.TS.Tryz.tau)), (254, Go.TS.Tryz.c254 (slices_Insert_int_int Go.TS.Tryz.tau)), (97, Go.TS.Tryz.c97 (octet_Reader_Word Go.TS.Tryz.tau)), (314, Go.TS.Tryz.c314 (slices_IndexFunc_byte_byte Go.TS.Tryz.tau)), (346, Go.TS.Tryz.c346 (bucket_Read Go.TS.Tryz.tau)), (343, Go.TS.Tryz.c343 (slots_noughts Go.TS.Tryz.tau)), (181, Go.TS.Tryz.c181 (slices_Delete_int_int Go.TS.Tryz.tau)), (206, Go.TS.Tryz.c206 (slices_Insert_api_Ref_api_Ref Go.TS.Tryz.tau)), (216, Go.TS.Tryz.c216 (slices_Delete_api_Ref_api_Ref Go.TS.Tryz.tau)), (326, Go.TS.Tryz.c326 (bytes_trimRightByte Go.TS.Tryz.tau)), (341, pX Go.Proofs.Tryz.prog 341)]
theorem ixOk : IxOk Go.Proofs.Tryz.prog (ixGet ixl) := ixOk_of (.cons Go.TS.Tryz.s133 (.cons Go.TS.Tryz.s112 (.cons Go.TS.Tryz.s337 (.cons Go.TS.Tryz.s82 (.cons Go.TS.Tryz.s254 (.cons Go.TS.Tryz.s97 (.cons Go.TS.Tryz.s314 (.cons Go.TS.Tryz.s346 (.cons Go.TS.Tryz.s343 (.cons Go.TS.Tryz.s181 (.cons Go.TS.Tryz.s206 (.cons Go.TS.Tryz.s216 (.cons Go.TS.Tryz.s326 (.consX pX_sound (.nil)))))))))))))))
set_option maxRecDepth 100000 in
theorem ixAll : IxAll (ixGet ixl) fnl := .code (.code (.code (.code (.code (.code (.intr (p := Go.TS.Tryz.c133 (sector_Disk_Sectors Go.TS.Tryz.tau)) rfl ix133 (.code (.code (.code (.code (.code (.code (.intr (p := Go.TS.Tryz.c112 (octet_Word Go.TS.Tryz.tau)) rfl ix112 (.code (.code (.code (.code (.code (.code (.code (.code (.code (.code (.code (.code (.code (.intr (p := Go.TS.Tryz.c337 (crc_Parts Go.TS.Tryz.tau)) rfl ix337 (.code (.code (.code (.code (.code (.code (.code (.code (.code (.code (.code (.code (.code (.code (.code (.code (.code (.intr (p := Go.TS.Tryz.c82 (sector_Disk_Flush Go.TS.Tryz.tau)) rfl ix82 (.code (.code (.code (.code (.code (.code (.code (.code (.code (.code (.code (.code (.code (.code (.code (.code (.code (.code (.code (.code (.code (.code (.code (.code (.code (.intr (p := Go.TS.Tryz.c254 (slices_Insert_int_int Go.TS.Tryz.tau)) rfl ix254 (.code (.code (.code (.code (.code (.code (.code (.code (.code (.code (.code (.code (.code (.code (.code (.code (.code (.code (.code (.code (.code (.code (.code (.code (.code (.code (.code (.code (.code (.code (.code (.code (.intr (p := Go.TS.Tryz.c97 (octet_Reader_Word Go.TS.Tryz.tau)) rfl ix97 (.code (.code (.code (.code (.code (.code (.code (.code (.code (.code (.code (.code (.code (.code (.intr (p := Go.TS.Tryz.c314 (slices_IndexFunc_byte_byte Go.TS.Tryz.tau)) rfl ix314 (.code (.code (.code (.code (.code (.code (.code (.code (.code (.code (.intr (p := Go.TS.Tryz.c346 (bucket_Read Go.TS.Tryz.tau)) rfl ix346 (.code (.code (.code (.code (.code (.code (.code (.code (.code (.code (.code (.code (.code (.code (.code (.code (.code (.code (.code (.code (.code (.code (.code (.code (.code (.code (.code (.code (.code (.code (.code (.code (.code (.intr (p := Go.TS.Tryz.c343 (slots_noughts Go.TS.Tryz.tau)) rfl ix343 (.code (.code (.code (.code (.code (.code (.code (.code (.code (.code (.code (.code (.code (.code (.code (.code (.code (.code (.code (.code (.code (.code (.code (.code (.code (.code (.code (.code (.code (.code (.code (.code (.code (.code (.code (.code (.code (.code (.code (.code (.code (.code (.code (.code (.code (.code (.code (.code (.code (.code (.code (.intr (p := Go.TS.Tryz.c181 (slices_Delete_int_int Go.TS.Tryz.tau)) rfl ix181 (.code (.code (.code (.code (.code (.code (.code (.code (.code (.code (.code (.code (.code (.code (.code (.code (.code (.code (.code (.code (.code (.code (.code (.code (.code (.code (.code (.code (.code (.code (.code (.code (.code (.code (.code (.intr (p := Go.TS.Tryz.c206 (slices_Insert_api_Ref_api_Ref Go.TS.Tryz.tau)) rfl ix206 (.code (.code (.code (.code (.code (.code (.code (.code (.code (.intr (p := Go.TS.Tryz.c216 (slices_Delete_api_Ref_api_Ref Go.TS.Tryz.tau)) rfl ix216 (.code (.code (.code (.code (.code (.code (.code (.code (.code (.code (.code (.code (.code (.code (.code (.code (.code (.code (.code (.code (.code (.code (.code (.code (.code (.code (.code (.code (.code (.code (.code (.code (.code (.code (.code (.code (.code (.code (.code (.code (.code (.code (.code (.code (.code (.code (.code (.code (.code (.code (.code (.intr (p := Go.TS.Tryz.c326 (bytes_trimRightByte Go.TS.Tryz.tau)) rfl ix326 (.code (.code (.code (.code (.code (.code (.code (.code (.code (.code (.code (.code (.code (.code (.code (.code (.code (.code (.code (.code (.code (.code (.code (.code (.code (.code (.code (.code (.code (.code (.code (.code (.code (.code (.code (.code (.code (.code (.code (.code (.code (.code (.code (.code (.code (.code (.code (.code (.code (.code (.code (.code (.intr (p := pX Go.Proofs.Tryz.prog 341) rfl ix341 (.code (.code (.code (.code (.code (.code (.code (.code (.code (.code (.nil))))))))))))))))))))))))))))))))))))))))))))))))))))))))))))))))))))))))))))))))))))))))))))))))))))))))))))))))))))))))))))))))))))))))))))))))))))))))))))))))))))))))))))))))))))))))))))))))))))))))))))))))))))))))))))))))))))))))))))))))))))))))))))))))))))))))))))))))))))))))))))))))))))))))))))))))))))))))))))))))))))))))))))))))))))))))))))))))))))))))))))))))))))))))))
theorem ixR : IxR fns (ixGet ixl) := ixR_of ixAll (by intro q hq; exact of_blt (l := fnl) (by kernel_rfl) q hq)
end Go.XS.Tryz
/- The tables of a run: facts of the types. -/
namespace Go.XS.Tryz
open Go Go.TS
set_option maxRecDepth 100000
theorem hm : Go.Proofs.Tryz.prog.follows .mixedOrders = true := by kernel_rfl
theorem ty3 : TyOk Go.Proofs.Tryz.prog 3 ti3 := ⟨Go.Proofs.Tryz.underlying3, by kernel_rfl, by kernel_rfl, trivial⟩
theorem ty4 : TyOk Go.Proofs.Tryz.prog 4 ti4 := ⟨Go.Proofs.Tryz.underlying4, by kernel_rfl, by kernel_rfl, trivial⟩
theorem ty5 : TyOk Go.Proofs.Tryz.prog 5 ti5 := ⟨Go.Proofs.Tryz.underlying5, by kernel_rfl, by kernel_rfl, trivial⟩
theorem ty9 : TyOk Go.Proofs.Tryz.prog 9 ti9 := ⟨Go.Proofs.Tryz.underlying9, by kernel_rfl, by kernel_rfl, trivial⟩
theorem ty21 : TyOk Go.Proofs.Tryz.prog 21 ti21 := ⟨Go.Proofs.Tryz.underlying21, by kernel_rfl, by kernel_rfl, trivial⟩
theorem ty22 : TyOk Go.Proofs.Tryz.prog 22 ti22 := ⟨Go.Proofs.Tryz.underlying22, by kernel_rfl, by kernel_rfl, trivial⟩
theorem ty23 : TyOk Go.Proofs.Tryz.prog 23 ti23 := ⟨Go.Proofs.Tryz.underlying23, by kernel_rfl, by kernel_rfl, trivial⟩
theorem ty26 : TyOk Go.Proofs.Tryz.prog 26 ti26 := ⟨Go.Proofs.Tryz.underlying26, by kernel_rfl, by kernel_rfl, trivial⟩
theorem ty28 : TyOk Go.Proofs.Tryz.prog 28 ti28 := ⟨Go.Proofs.Tryz.underlying28, by kernel_rfl, by kernel_rfl, ⟨by kernel_rfl, by kernel_rfl⟩⟩
theorem ty29 : TyOk Go.Proofs.Tryz.prog 29 ti29 := ⟨Go.Proofs.Tryz.underlying29, by kernel_rfl, by kernel_rfl, trivial⟩
theorem ty30 : TyOk Go.Proofs.Tryz.prog 30 ti30 := ⟨Go.Proofs.Tryz.underlying30, by kernel_rfl, by kernel_rfl, trivial⟩
theorem ty32 : TyOk Go.Proofs.Tryz.prog 32 ti32 := ⟨Go.Proofs.Tryz.underlying32, by kernel_rfl, by kernel_rfl, ⟨by kernel_rfl, by kernel_rfl⟩⟩
theorem ty34 : TyOk Go.Proofs.Tryz.prog 34 ti34 := ⟨Go.Proofs.Tryz.underlying34, by kernel_rfl, by kernel_rfl, ⟨by kernel_rfl, by kernel_rfl⟩⟩
theorem ty35 : TyOk Go.Proofs.Tryz.prog 35 ti35 := ⟨Go.Proofs.Tryz.underlying35, by kernel_rfl, by kernel_rfl, trivial⟩
theorem ty39 : TyOk Go.Proofs.Tryz.prog 39 ti39 := ⟨Go.Proofs.Tryz.underlying39, by kernel_rfl, by kernel_rfl, trivial⟩
theorem ty47 : TyOk Go.Proofs.Tryz.prog 47 ti47 := ⟨Go.Proofs.Tryz.underlying47, by kernel_rfl, by kernel_rfl, trivial⟩
theorem ty50 : TyOk Go.Proofs.Tryz.prog 50 ti50 := ⟨Go.Proofs.Tryz.underlying50, by kernel_rfl, by kernel_rfl, ⟨by kernel_rfl, by kernel_rfl⟩⟩
theorem ty58 : TyOk Go.Proofs.Tryz.prog 58 ti58 := ⟨Go.Proofs.Tryz.underlying58, by kernel_rfl, by kernel_rfl, trivial⟩
theorem ty60 : TyOk Go.Proofs.Tryz.prog 60 ti60 := ⟨Go.Proofs.Tryz.underlying60, by kernel_rfl, by kernel_rfl, ⟨by kernel_rfl, by kernel_rfl⟩⟩
theorem ty69 : TyOk Go.Proofs.Tryz.prog 69 ti69 := ⟨Go.Proofs.Tryz.underlying69, by kernel_rfl, by kernel_rfl, trivial⟩
theorem ty71 : TyOk Go.Proofs.Tryz.prog 71 ti71 := ⟨Go.Proofs.Tryz.underlying71, by kernel_rfl, by kernel_rfl, ⟨by kernel_rfl, by kernel_rfl⟩⟩
theorem ty79 : TyOk Go.Proofs.Tryz.prog 79 ti79 := ⟨Go.Proofs.Tryz.underlying79, by kernel_rfl, by kernel_rfl, trivial⟩
theorem ty81 : TyOk Go.Proofs.Tryz.prog 81 ti81 := ⟨Go.Proofs.Tryz.underlying81, by kernel_rfl, by kernel_rfl, ⟨by kernel_rfl, by kernel_rfl⟩⟩
theorem ty85 : TyOk Go.Proofs.Tryz.prog 85 ti85 := ⟨Go.Proofs.Tryz.underlying85, by kernel_rfl, by kernel_rfl, ⟨by kernel_rfl, by kernel_rfl⟩⟩
theorem ty87 : TyOk Go.Proofs.Tryz.prog 87 ti87 := ⟨Go.Proofs.Tryz.underlying87, by kernel_rfl, by kernel_rfl, ⟨by kernel_rfl, by kernel_rfl⟩⟩
theorem ty91 : TyOk Go.Proofs.Tryz.prog 91 ti91 := ⟨Go.Proofs.Tryz.underlying91, by kernel_rfl, by kernel_rfl, trivial⟩
theorem ty107 : TyOk Go.Proofs.Tryz.prog 107 ti107 := ⟨Go.Proofs.Tryz.underlying107, by kernel_rfl, by kernel_rfl, trivial⟩
theorem ty110 : TyOk Go.Proofs.Tryz.prog 110 ti110 := ⟨Go.Proofs.Tryz.underlying110, by kernel_rfl, by kernel_rfl, ⟨by kernel_rfl, by kernel_rfl⟩⟩
theorem ty116 : TyOk Go.Proofs.Tryz.prog 116 ti116 := ⟨Go.Proofs.Tryz.underlying116, by kernel_rfl, by kernel_rfl, ⟨by kernel_rfl, by kernel_rfl⟩⟩
theorem ty119 : TyOk Go.Proofs.Tryz.prog 119 ti119 := ⟨Go.Proofs.Tryz.underlying119, by kernel_rfl, by kernel_rfl, ⟨by kernel_rfl, by kernel_rfl⟩⟩
theorem ty121 : TyOk Go.Proofs.Tryz.prog 121 ti121 := ⟨Go.Proofs.Tryz.underlying121, by kernel_rfl, by kernel_rfl, ⟨by kernel_rfl, by kernel_rfl⟩⟩
theorem ty122 : TyOk Go.Proofs.Tryz.prog 122 ti122 := ⟨Go.Proofs.Tryz.underlying122, by kernel_rfl, by kernel_rfl, trivial⟩
theorem ty124 : TyOk Go.Proofs.Tryz.prog 124 ti124 := ⟨Go.Proofs.Tryz.underlying124, by kernel_rfl, by kernel_rfl, ⟨by kernel_rfl, by kernel_rfl⟩⟩
theorem ty125 : TyOk Go.Proofs.Tryz.prog 125 ti125 := ⟨Go.Proofs.Tryz.underlying125, by kernel_rfl, by kernel_rfl, trivial⟩
theorem ty126 : TyOk Go.Proofs.Tryz.prog 126 ti126 := ⟨Go.Proofs.Tryz.underlying126, by kernel_rfl, by kernel_rfl, trivial⟩
theorem ty128 : TyOk Go.Proofs.Tryz.prog 128 ti128 := ⟨Go.Proofs.Tryz.underlying128, by kernel_rfl, by kernel_rfl, ⟨by kernel_rfl, by kernel_rfl⟩⟩
theorem ty133 : TyOk Go.Proofs.Tryz.prog 133 ti133 := ⟨Go.Proofs.Tryz.underlying133, by kernel_rfl, by kernel_rfl, trivial⟩
theorem ty137 : TyOk Go.Proofs.Tryz.prog 137 ti137 := ⟨Go.Proofs.Tryz.underlying137, by kernel_rfl, by kernel_rfl, ⟨by kernel_rfl, by kernel_rfl⟩⟩
theorem ty141 : TyOk Go.Proofs.Tryz.prog 141 ti141 := ⟨Go.Proofs.Tryz.underlying141, by kernel_rfl, by kernel_rfl, trivial⟩
theorem ty150 : TyOk Go.Proofs.Tryz.prog 150 ti150 := ⟨Go.Proofs.Tryz.underlying150, by kernel_rfl, by kernel_rfl, trivial⟩
theorem ty156 : TyOk Go.Proofs.Tryz.prog 156 ti156 := ⟨Go.Proofs.Tryz.underlying156, by kernel_rfl, by kernel_rfl, trivial⟩
theorem ty161 : TyOk Go.Proofs.Tryz.prog 161 ti161 := ⟨Go.Proofs.Tryz.underlying161, by kernel_rfl, by kernel_rfl, trivial⟩
theorem ty163 : TyOk Go.Proofs.Tryz.prog 163 ti163 := ⟨Go.Proofs.Tryz.underlying163, by kernel_rfl, by kernel_rfl, ⟨by kernel_rfl, by kernel_rfl⟩⟩
theorem ty166 : TyOk Go.Proofs.Tryz.prog 166 ti166 := ⟨Go.Proofs.Tryz.underlying166, by kernel_rfl, by kernel_rfl, trivial⟩
theorem ty171 : TyOk Go.Proofs.Tryz.prog 171 ti171 := ⟨Go.Proofs.Tryz.underlying171, by kernel_rfl, by kernel_rfl, ⟨by kernel_rfl, by kernel_rfl⟩⟩
theorem ty175 : TyOk Go.Proofs.Tryz.prog 175 ti175 := ⟨Go.Proofs.Tryz.underlying175, by kernel_rfl, by kernel_rfl, trivial⟩
theorem ty177 : TyOk Go.Proofs.Tryz.prog 177 ti177 := ⟨Go.Proofs.Tryz.underlying177, by kernel_rfl, by kernel_rfl, ⟨by kernel_rfl, by kernel_rfl⟩⟩
theorem ty179 : TyOk Go.Proofs.Tryz.prog 179 ti179 := ⟨Go.Proofs.Tryz.underlying179, by kernel_rfl, by kernel_rfl, trivial⟩
theorem ty181 : TyOk Go.Proofs.Tryz.prog 181 ti181 := ⟨Go.Proofs.Tryz.underlying181, by kernel_rfl, by kernel_rfl, ⟨by kernel_rfl, by kernel_rfl⟩⟩
theorem ty189 : TyOk Go.Proofs.Tryz.prog 189 ti189 := ⟨Go.Proofs.Tryz.underlying189, by kernel_rfl, by kernel_rfl, trivial⟩
theorem ty197 : TyOk Go.Proofs.Tryz.prog 197 ti197 := ⟨Go.Proofs.Tryz.underlying197, by kernel_rfl, by kernel_rfl, ⟨by kernel_rfl, by kernel_rfl⟩⟩
theorem ty198 : TyOk Go.Proofs.Tryz.prog 198 ti198 := ⟨Go.Proofs.Tryz.underlying198, by kernel_rfl, by kernel_rfl, trivial⟩
theorem ty200 : TyOk Go.Proofs.Tryz.prog 200 ti200 := ⟨Go.Proofs.Tryz.underlying200, by kernel_rfl, by kernel_rfl, ⟨by kernel_rfl, by kernel_rfl⟩⟩
theorem ty204 : TyOk Go.Proofs.Tryz.prog 204 ti204 := ⟨Go.Proofs.Tryz.underlying204, by kernel_rfl, by kernel_rfl, trivial⟩
theorem ty206 : TyOk Go.Proofs.Tryz.prog 206 ti206 := ⟨Go.Proofs.Tryz.underlying206, by kernel_rfl, by kernel_rfl, ⟨by kernel_rfl, by kernel_rfl⟩⟩
theorem ty237 : TyOk Go.Proofs.Tryz.prog 237 ti237 := ⟨Go.Proofs.Tryz.underlying237, by kernel_rfl, by kernel_rfl, trivial⟩
theorem ty240 : TyOk Go.Proofs.Tryz.prog 240 ti240 := ⟨Go.Proofs.Tryz.underlying240, by kernel_rfl, by kernel_rfl, trivial⟩
theorem ty242 : TyOk Go.Proofs.Tryz.prog 242 ti242 := ⟨Go.Proofs.Tryz.underlying242, by kernel_rfl, by kernel_rfl, trivial⟩
theorem ty244 : TyOk Go.Proofs.Tryz.prog 244 ti244 := ⟨Go.Proofs.Tryz.underlying244, by kernel_rfl, by kernel_rfl, ⟨by kernel_rfl, by kernel_rfl⟩⟩
theorem ty258 : TyOk Go.Proofs.Tryz.prog 258 ti258 := ⟨Go.Proofs.Tryz.underlying258, by kernel_rfl, by kernel_rfl, ⟨by kernel_rfl, by kernel_rfl⟩⟩
theorem ty261 : TyOk Go.Proofs.Tryz.prog 261 ti261 := ⟨Go.Proofs.Tryz.underlying261, by kernel_rfl, by kernel_rfl, trivial⟩
theorem ty284 : TyOk Go.Proofs.Tryz.prog 284 ti284 := ⟨Go.Proofs.Tryz.underlying284, by kernel_rfl, by kernel_rfl, trivial⟩
theorem ty301 : TyOk Go.Proofs.Tryz.prog 301 ti301 := ⟨Go.Proofs.Tryz.underlying301, by kernel_rfl, by kernel_rfl, trivial⟩
theorem ty302 : TyOk Go.Proofs.Tryz.prog 302 ti302 := ⟨Go.Proofs.Tryz.underlying302, by kernel_rfl, by kernel_rfl, trivial⟩
theorem ty312 : TyOk Go.Proofs.Tryz.prog 312 ti312 := ⟨Go.Proofs.Tryz.underlying312, by kernel_rfl, by kernel_rfl, ⟨by kernel_rfl, by kernel_rfl⟩⟩
theorem ty316 : TyOk Go.Proofs.Tryz.prog 316 ti316 := ⟨Go.Proofs.Tryz.underlying316, by kernel_rfl, by kernel_rfl, trivial⟩
theorem ty317 : TyOk Go.Proofs.Tryz.prog 317 ti317 := ⟨Go.Proofs.Tryz.underlying317, by kernel_rfl, by kernel_rfl, ⟨by kernel_rfl, by kernel_rfl⟩⟩
theorem ty319 : TyOk Go.Proofs.Tryz.prog 319 ti319 := ⟨Go.Proofs.Tryz.underlying319, by kernel_rfl, by kernel_rfl, trivial⟩
theorem ty322 : TyOk Go.Proofs.Tryz.prog 322 ti322 := ⟨Go.Proofs.Tryz.underlying322, by kernel_rfl, by kernel_rfl, trivial⟩
theorem ty326 : TyOk Go.Proofs.Tryz.prog 326 ti326 := ⟨Go.Proofs.Tryz.underlying326, by kernel_rfl, by kernel_rfl, ⟨by kernel_rfl, by kernel_rfl⟩⟩
theorem ty328 : TyOk Go.Proofs.Tryz.prog 328 ti328 := ⟨Go.Proofs.Tryz.underlying328, by kernel_rfl, by kernel_rfl, ⟨by kernel_rfl, by kernel_rfl⟩⟩
theorem ty329 : TyOk Go.Proofs.Tryz.prog 329 ti329 := ⟨Go.Proofs.Tryz.underlying329, by kernel_rfl, by kernel_rfl, trivial⟩
theorem ty335 : TyOk Go.Proofs.Tryz.prog 335 ti335 := ⟨Go.Proofs.Tryz.underlying335, by kernel_rfl, by kernel_rfl, trivial⟩
theorem ty339 : TyOk Go.Proofs.Tryz.prog 339 ti339 := ⟨Go.Proofs.Tryz.underlying339, by kernel_rfl, by kernel_rfl, trivial⟩
theorem ty350 : TyOk Go.Proofs.Tryz.prog 350 ti350 := ⟨Go.Proofs.Tryz.underlying350, by kernel_rfl, by kernel_rfl, trivial⟩
theorem ty354 : TyOk Go.Proofs.Tryz.prog 354 ti354 := ⟨Go.Proofs.Tryz.underlying354, by kernel_rfl, by kernel_rfl, ⟨by kernel_rfl, by kernel_rfl⟩⟩
theorem ty360 : TyOk Go.Proofs.Tryz.prog 360 ti360 := ⟨Go.Proofs.Tryz.underlying360, by kernel_rfl, by kernel_rfl, trivial⟩
theorem ty363 : TyOk Go.Proofs.Tryz.prog 363 ti363 := ⟨Go.Proofs.Tryz.underlying363, by kernel_rfl, by kernel_rfl, trivial⟩
theorem ty369 : TyOk Go.Proofs.Tryz.prog 369 ti369 := ⟨Go.Proofs.Tryz.underlying369, by kernel_rfl, by kernel_rfl, trivial⟩
theorem ty381 : TyOk Go.Proofs.Tryz.prog 381 ti381 := ⟨Go.Proofs.Tryz.underlying381, by kernel_rfl, by kernel_rfl, trivial⟩
theorem ty391 : TyOk Go.Proofs.Tryz.prog 391 ti391 := ⟨Go.Proofs.Tryz.underlying391, by kernel_rfl, by kernel_rfl, trivial⟩
theorem ty395 : TyOk Go.Proofs.Tryz.prog 395 ti395 := ⟨Go.Proofs.Tryz.underlying395, by kernel_rfl, by kernel_rfl, trivial⟩
theorem ty409 : TyOk Go.Proofs.Tryz.prog 409 ti409 := ⟨Go.Proofs.Tryz.underlying409, by kernel_rfl, by kernel_rfl, trivial⟩
theorem ty413 : TyOk Go.Proofs.Tryz.prog 413 ti413 := ⟨Go.Proofs.Tryz.underlying413, by kernel_rfl, by kernel_rfl, trivial⟩
theorem ty414 : TyOk Go.Proofs.Tryz.prog 414 ti414 := ⟨Go.Proofs.Tryz.underlying414, by kernel_rfl, by kernel_rfl, trivial⟩
theorem ty421 : TyOk Go.Proofs.Tryz.prog 421 ti421 := ⟨Go.Proofs.Tryz.underlying421, by kernel_rfl, by kernel_rfl, trivial⟩
theorem ty441 : TyOk Go.Proofs.Tryz.prog 441 ti441 := ⟨Go.Proofs.Tryz.underlying441, by kernel_rfl, by kernel_rfl, trivial⟩
theorem ty453 : TyOk Go.Proofs.Tryz.prog 453 ti453 := ⟨Go.Proofs.Tryz.underlying453, by kernel_rfl, by kernel_rfl, trivial⟩
theorem ty455 : TyOk Go.Proofs.Tryz.prog 455 ti455 := ⟨Go.Proofs.Tryz.underlying455, by kernel_rfl, by kernel_rfl, ⟨by kernel_rfl, by kernel_rfl⟩⟩
theorem ty456 : TyOk Go.Proofs.Tryz.prog 456 ti456 := ⟨Go.Proofs.Tryz.underlying456, by kernel_rfl, by kernel_rfl, trivial⟩
theorem tysOk : TysOk Go.Proofs.Tryz.prog tys := tysOk_ofT (.cons ty3 (.cons ty4 (.cons ty5 (.cons ty9 (.cons ty21 (.cons ty22 (.cons ty23 (.cons ty26 (.cons ty28 (.cons ty29 (.cons ty30 (.cons ty32 (.cons ty34 (.cons ty35 (.cons ty39 (.cons ty47 (.cons ty50 (.cons ty58 (.cons ty60 (.cons ty69 (.cons ty71 (.cons ty79 (.cons ty81 (.cons ty85 (.cons ty87 (.cons ty91 (.cons ty107 (.cons ty110 (.cons ty116 (.cons ty119 (.cons ty121 (.cons ty122 (.cons ty124 (.cons ty125 (.cons ty126 (.cons ty128 (.cons ty133 (.cons ty137 (.cons ty141 (.cons ty150 (.cons ty156 (.cons ty161 (.cons ty163 (.cons ty166 (.cons ty171 (.cons ty175 (.cons ty177 (.cons ty179 (.cons ty181 (.cons ty189 (.cons ty197 (.cons ty198 (.cons ty200 (.cons ty204 (.cons ty206 (.cons ty237 (.cons ty240 (.cons ty242 (.cons ty244 (.cons ty258 (.cons ty261 (.cons ty284 (.cons ty301 (.cons ty302 (.cons ty312 (.cons ty316 (.cons ty317 (.cons ty319 (.cons ty322 (.cons ty326 (.cons ty328 (.cons ty329 (.cons ty335 (.cons ty339 (.cons ty350 (.cons ty354 (.cons ty360 (.cons ty363 (.cons ty369 (.cons ty381 (.cons ty391 (.cons ty395 (.cons ty409 (.cons ty413 (.cons ty414 (.cons ty421 (.cons ty441 (.cons ty453 (.cons ty455 (.cons ty456 (.nil))))))))))))))))))))))))))))))))))))))))))))))))))))))))))))))))))))))))))))))))))))))))))) (by kernel_rfl)
theorem tyAll : TyAllR tys tyl := .flat (by kernel_rfl) (by kernel_rfl) (.flat (by kernel_rfl) (by kernel_rfl) (.flat (by kernel_rfl) (by kernel_rfl) (.flat (by kernel_rfl) (by kernel_rfl) (.flat (by kernel_rfl) (by kernel_rfl) (.flat (by kernel_rfl) (by kernel_rfl) (.flat (by kernel_rfl) (by kernel_rfl) (.flat (by kernel_rfl) (by kernel_rfl) (.flat (by kernel_rfl) (by kernel_rfl) (.flat (by kernel_rfl) (by kernel_rfl) (.flat (by kernel_rfl) (by kernel_rfl) (.flat (by kernel_rfl) (by kernel_rfl) (.flat (by kernel_rfl) (by kernel_rfl) (.flat (by kernel_rfl) (by kernel_rfl) (.flat (by kernel_rfl) (by kernel_rfl) (.flat (by kernel_rfl) (by kernel_rfl) (.flat (by kernel_rfl) (by kernel_rfl) (.flat (by kernel_rfl) (by kernel_rfl) (.flat (by kernel_rfl) (by kernel_rfl) (.flat (by kernel_rfl) (by kernel_rfl) (.flat (by kernel_rfl) (by kernel_rfl) (.flat (by kernel_rfl) (by kernel_rfl) (.flat (by kernel_rfl) (by kernel_rfl) (.flat (by kernel_rfl) (by kernel_rfl) (.flat (by kernel_rfl) (by kernel_rfl) (.flat (by kernel_rfl) (by kernel_rfl) (.flat (by kernel_rfl) (by kernel_rfl) (.flat (by kernel_rfl) (by kernel_rfl) (.flat (by kernel_rfl) (by kernel_rfl) (.flat (by kernel_rfl) (by kernel_rfl) (.flat (by kernel_rfl) (by kernel_rfl) (.flat (by kernel_rfl) (by kernel_rfl) (.flat (by kernel_rfl) (by kernel_rfl) (.flat (by kernel_rfl) (by kernel_rfl) (.flat (by kernel_rfl) (by kernel_rfl) (.flat (by kernel_rfl) (by kernel_rfl) (.flat (by kernel_rfl) (by kernel_rfl) (.flat (by kernel_rfl) (by kernel_rfl) (.flat (by kernel_rfl) (by kernel_rfl) (.flat (by kernel_rfl) (by kernel_rfl) (.flat (by kernel_rfl) (by kernel_rfl) (.flat (by kernel_rfl) (by kernel_rfl) (.flat (by kernel_rfl) (by kernel_rfl) (.flat (by kernel_rfl) (by kernel_rfl) (.flat (by kernel_rfl) (by kernel_rfl) (.flat (by kernel_rfl) (by kernel_rfl) (.flat (by kernel_rfl) (by kernel_rfl) (.flat (by kernel_rfl) (by kernel_rfl) (.flat (by kernel_rfl) (by kernel_rfl) (.flat (by kernel_rfl) (by kernel_rfl) (.flat (by kernel_rfl) (by kernel_rfl) (.flat (by kernel_rfl) (by kernel_rfl) (.flat (by kernel_rfl) (by kernel_rfl) (.flat (by kernel_rfl) (by kernel_rfl) (.flat (by kernel_rfl) (by kernel_rfl) (.flat (by kernel_rfl) (by kernel_rfl) (.flat (by kernel_rfl) (by kernel_rfl) (.flat (by kernel_rfl) (by kernel_rfl) (.flat (by kernel_rfl) (by kernel_rfl) (.flat (by kernel_rfl) (by kernel_rfl) (.flat (by kernel_rfl) (by kernel_rfl) (.flat (by kernel_rfl) (by kernel_rfl) (.flat (by kernel_rfl) (by kernel_rfl) (.flat (by kernel_rfl) (by kernel_rfl) (.flat (by kernel_rfl) (by kernel_rfl) (.flat (by kernel_rfl) (by kernel_rfl) (.flat (by kernel_rfl) (by kernel_rfl) (.flat (by kernel_rfl) (by kernel_rfl) (.flat (by kernel_rfl) (by kernel_rfl) (.flat (by kernel_rfl) (by kernel_rfl) (.flat (by kernel_rfl) (by kernel_rfl) (.flat (by kernel_rfl) (by kernel_rfl) (.flat (by kernel_rfl) (by kernel_rfl) (.flat (by kernel_rfl) (by kernel_rfl) (.flat (by kernel_rfl) (by kernel_rfl) (.flat (by kernel_rfl) (by kernel_rfl) (.arr (te := ti5) rfl (by kernel_rfl) rfl rfl (by kernel_rfl) (.flat (by kernel_rfl) (by kernel_rfl) (.flat (by kernel_rfl) (by kernel_rfl) (.flat (by kernel_rfl) (by kernel_rfl) (.flat (by kernel_rfl) (by kernel_rfl) (.flat (by kernel_rfl) (by kernel_rfl) (.arr (te := ti4) rfl (by kernel_rfl) rfl rfl (by kernel_rfl) (.flat (by kernel_rfl) (by kernel_rfl) (.flat (by kernel_rfl) (by kernel_rfl) (.flat (by kernel_rfl) (by kernel_rfl) (.arr (te := ti161) rfl (by kernel_rfl) rfl rfl (by kernel_rfl) (.arr (te := ti5) rfl (by kernel_rfl) rfl rfl (by kernel_rfl) (.flat (by kernel_rfl) (by kernel_rfl) (.flat (by kernel_rfl) (by kernel_rfl) (.nil))))))))))))))))))))))))))))))))))))))))))))))))))))))))))))))))))))))))))))))))))))))))))
theorem tyR : TyR tys := tyR_of tyAll
end Go.XS.Tryz
/- Calls of a closed run: each call does what its run says. -/
namespace Go.XS.Tryz
open Go Go.TS
set_option maxRecDepth 100000
set_option linter.unusedVariables false
theorem srm0_0R : RunOf Go.Proofs.Tryz.prog 11 srm0_0 := run_of (c := Go.Proofs.Tryz.f11.body.getD .skip) (rs := Go.Proofs.Tryz.f11.results.toList) (k := Go.Proofs.Tryz.f11.ntmps) hm tysOk tyR fnsOk ixOk ixR (by kernel_rfl) (by kernel_rfl) (endM_fast srm0_0r)
theorem srm0_1R : RunOf Go.Proofs.Tryz.prog 11 srm0_1 := run_of (c := Go.Proofs.Tryz.f11.body.getD .skip) (rs := Go.Proofs.Tryz.f11.results.toList) (k := Go.Proofs.Tryz.f11.ntmps) hm tysOk tyR fnsOk ixOk ixR (by kernel_rfl) (by kernel_rfl) (endM_fast srm0_1r)
theorem srm0_2R : RunOf Go.Proofs.Tryz.prog 11 srm0_2 := run_of (c := Go.Proofs.Tryz.f11.body.getD .skip) (rs := Go.Proofs.Tryz.f11.results.toList) (k := Go.Proofs.Tryz.f11.ntmps) hm tysOk tyR fnsOk ixOk ixR (by kernel_rfl) (by kernel_rfl) (endM_fast srm0_2r)
theorem srall0 : ∀ m, m ∈ sres0 → RunOf Go.Proofs.Tryz.prog 11 m := by
  intro m hm
  simp only [sres0, List.mem_cons, List.not_mem_nil, or_false] at hm
  rcases hm with rfl | rfl | rfl
  · exact srm0_0R
  · exact srm0_1R
  · exact srm0_2R
noncomputable def srx1 : Nat → Option CallP := overI (ixGet ixl) 11 (pSem Go.Proofs.Tryz.prog 11)
theorem srfOk1 : FnsOk Go.Proofs.Tryz.prog srf1 := fnsOk.over 11 (iMemo sres0)
theorem srxOk1 : IxOk Go.Proofs.Tryz.prog srx1 := ixOk.over (pSem_sound Go.Proofs.Tryz.call11)
theorem srxR1 : IxR srf1 srx1 := ixR.over (iMemo_R1 srall0)
theorem srm1_0R : RunOf Go.Proofs.Tryz.prog 7 srm1_0 := run_of (c := Go.Proofs.Tryz.f7.body.getD .skip) (rs := Go.Proofs.Tryz.f7.results.toList) (k := Go.Proofs.Tryz.f7.ntmps) hm tysOk tyR srfOk1 srxOk1 srxR1 (by kernel_rfl) (by kernel_rfl) (endM_fast srm1_0r)
theorem srm1_1R : RunOf Go.Proofs.Tryz.prog 7 srm1_1 := run_of (c := Go.Proofs.Tryz.f7.body.getD .skip) (rs := Go.Proofs.Tryz.f7.results.toList) (k := Go.Proofs.Tryz.f7.ntmps) hm tysOk tyR srfOk1 srxOk1 srxR1 (by kernel_rfl) (by kernel_rfl) (endM_fast srm1_1r)
theorem srm1_2R : RunOf Go.Proofs.Tryz.prog 7 srm1_2 := run_of (c := Go.Proofs.Tryz.f7.body.getD .skip) (rs := Go.Proofs.Tryz.f7.results.toList) (k := Go.Proofs.Tryz.f7.ntmps) hm tysOk tyR srfOk1 srxOk1 srxR1 (by kernel_rfl) (by kernel_rfl) (endM_fast srm1_2r)
theorem srm1_3R : RunOf Go.Proofs.Tryz.prog 7 srm1_3 := run_of (c := Go.Proofs.Tryz.f7.body.getD .skip) (rs := Go.Proofs.Tryz.f7.results.toList) (k := Go.Proofs.Tryz.f7.ntmps) hm tysOk tyR srfOk1 srxOk1 srxR1 (by kernel_rfl) (by kernel_rfl) (endM_fast srm1_3r)
theorem srall1 : ∀ m, m ∈ sres1 → RunOf Go.Proofs.Tryz.prog 7 m := by
  intro m hm
  simp only [sres1, List.mem_cons, List.not_mem_nil, or_false] at hm
  rcases hm with rfl | rfl | rfl | rfl
  · exact srm1_0R
  · exact srm1_1R
  · exact srm1_2R
  · exact srm1_3R
noncomputable def srx2 : Nat → Option CallP := overI srx1 7 (pSem Go.Proofs.Tryz.prog 7)
theorem srfOk2 : FnsOk Go.Proofs.Tryz.prog srf2 := srfOk1.over 7 (iMemo sres1)
theorem srxOk2 : IxOk Go.Proofs.Tryz.prog srx2 := srxOk1.over (pSem_sound Go.Proofs.Tryz.call7)
theorem srxR2 : IxR srf2 srx2 := srxR1.over (iMemo_R1 srall1)
theorem srm2_0R : RunOf Go.Proofs.Tryz.prog 15 srm2_0 := run_of (c := Go.Proofs.Tryz.f15.body.getD .skip) (rs := Go.Proofs.Tryz.f15.results.toList) (k := Go.Proofs.Tryz.f15.ntmps) hm tysOk tyR srfOk2 srxOk2 srxR2 (by kernel_rfl) (by kernel_rfl) (endM_fast srm2_0r)
theorem srm2_1R : RunOf Go.Proofs.Tryz.prog 15 srm2_1 := run_of (c := Go.Proofs.Tryz.f15.body.getD .skip) (rs := Go.Proofs.Tryz.f15.results.toList) (k := Go.Proofs.Tryz.f15.ntmps) hm tysOk tyR srfOk2 srxOk2 srxR2 (by kernel_rfl) (by kernel_rfl) (endM_fast srm2_1r)
theorem srall2 : ∀ m, m ∈ sres2 → RunOf Go.Proofs.Tryz.prog 15 m := by
  intro m hm
  simp only [sres2, List.mem_cons, List.not_mem_nil, or_false] at hm
  rcases hm with rfl | rfl
  · exact srm2_0R
  · exact srm2_1R
noncomputable def srx3 : Nat → Option CallP := overI srx2 15 (pSem Go.Proofs.Tryz.prog 15)
theorem srfOk3 : FnsOk Go.Proofs.Tryz.prog srf3 := srfOk2.over 15 (iMemo sres2)
theorem srxOk3 : IxOk Go.Proofs.Tryz.prog srx3 := srxOk2.over (pSem_sound Go.Proofs.Tryz.call15)
theorem srxR3 : IxR srf3 srx3 := srxR2.over (iMemo_R1 srall2)
theorem srm3_0R : RunOf Go.Proofs.Tryz.prog 33 srm3_0 := run_of (c := Go.Proofs.Tryz.f33.body.getD .skip) (rs := Go.Proofs.Tryz.f33.results.toList) (k := Go.Proofs.Tryz.f33.ntmps) hm tysOk tyR srfOk3 srxOk3 srxR3 (by kernel_rfl) (by kernel_rfl) (endM_fast srm3_0r)
theorem srall3 : ∀ m, m ∈ sres3 → RunOf Go.Proofs.Tryz.prog 33 m := by
  intro m hm
  simp only [sres3, List.mem_cons, List.not_mem_nil, or_false] at hm
  rcases hm with rfl
  exact srm3_0R
noncomputable def srx4 : Nat → Option CallP := overI srx3 33 (pSem Go.Proofs.Tryz.prog 33)
theorem srfOk4 : FnsOk Go.Proofs.Tryz.prog srf4 := srfOk3.over 33 (iMemo sres3)
theorem srxOk4 : IxOk Go.Proofs.Tryz.prog srx4 := srxOk3.over (pSem_sound Go.Proofs.Tryz.call33)
theorem srxR4 : IxR srf4 srx4 := srxR3.over (iMemo_R1 srall3)
theorem srm4_0R : RunOf Go.Proofs.Tryz.prog 9 srm4_0 := run_of (c := Go.Proofs.Tryz.f9.body.getD .skip) (rs := Go.Proofs.Tryz.f9.results.toList) (k := Go.Proofs.Tryz.f9.ntmps) hm tysOk tyR srfOk4 srxOk4 srxR4 (by kernel_rfl) (by kernel_rfl) (endM_fast srm4_0r)
theorem srm4_1R : RunOf Go.Proofs.Tryz.prog 9 srm4_1 := run_of (c := Go.Proofs.Tryz.f9.body.getD .skip) (rs := Go.Proofs.Tryz.f9.results.toList) (k := Go.Proofs.Tryz.f9.ntmps) hm tysOk tyR srfOk4 srxOk4 srxR4 (by kernel_rfl) (by kernel_rfl) (endM_fast srm4_1r)
theorem srm4_2R : RunOf Go.Proofs.Tryz.prog 9 srm4_2 := run_of (c := Go.Proofs.Tryz.f9.body.getD .skip) (rs := Go.Proofs.Tryz.f9.results.toList) (k := Go.Proofs.Tryz.f9.ntmps) hm tysOk tyR srfOk4 srxOk4 srxR4 (by kernel_rfl) (by kernel_rfl) (endM_fast srm4_2r)
theorem srall4 : ∀ m, m ∈ sres4 → RunOf Go.Proofs.Tryz.prog 9 m := by
  intro m hm
  simp only [sres4, List.mem_cons, List.not_mem_nil, or_false] at hm
  rcases hm with rfl | rfl | rfl
  · exact srm4_0R
  · exact srm4_1R
  · exact srm4_2R
noncomputable def srx5 : Nat → Option CallP := overI srx4 9 (pSem Go.Proofs.Tryz.prog 9)
theorem srfOk5 : FnsOk Go.Proofs.Tryz.prog srf5 := srfOk4.over 9 (iMemo sres4)
theorem srxOk5 : IxOk Go.Proofs.Tryz.prog srx5 := srxOk4.over (pSem_sound Go.Proofs.Tryz.call9)
theorem srxR5 : IxR srf5 srx5 := srxR4.over (iMemo_R1 srall4)
theorem srm5_0R : RunOf Go.Proofs.Tryz.prog 12 srm5_0 := run_of (c := Go.Proofs.Tryz.f12.body.getD .skip) (rs := Go.Proofs.Tryz.f12.results.toList) (k := Go.Proofs.Tryz.f12.ntmps) hm tysOk tyR srfOk5 srxOk5 srxR5 (by kernel_rfl) (by kernel_rfl) (endM_fast srm5_0r)
theorem srall5 : ∀ m, m ∈ sres5 → RunOf Go.Proofs.Tryz.prog 12 m := by
  intro m hm
  simp only [sres5, List.mem_cons, List.not_mem_nil, or_false] at hm
  rcases hm with rfl
  exact srm5_0R
noncomputable def srx6 : Nat → Option CallP := overI srx5 12 (pSem Go.Proofs.Tryz.prog 12)
theorem srfOk6 : FnsOk Go.Proofs.Tryz.prog srf6 := srfOk5.over 12 (iMemo sres5)
theorem srxOk6 : IxOk Go.Proofs.Tryz.prog srx6 := srxOk5.over (pSem_sound Go.Proofs.Tryz.call12)
theorem srxR6 : IxR srf6 srx6 := srxR5.over (iMemo_R1 srall5)
theorem srm6_0R : RunOf Go.Proofs.Tryz.prog 3 srm6_0 := run_of (c := Go.Proofs.Tryz.f3.body.getD .skip) (rs := Go.Proofs.Tryz.f3.results.toList) (k := Go.Proofs.Tryz.f3.ntmps) hm tysOk tyR srfOk6 srxOk6 srxR6 (by kernel_rfl) (by kernel_rfl) (endM_fast srm6_0r)
theorem srall6 : ∀ m, m ∈ sres6 → RunOf Go.Proofs.Tryz.prog 3 m := by
  intro m hm
  simp only [sres6, List.mem_cons, List.not_mem_nil, or_false] at hm
  rcases hm with rfl
  exact srm6_0R
noncomputable def srx7 : Nat → Option CallP := overI srx6 3 (pSem Go.Proofs.Tryz.prog 3)
theorem srfOk7 : FnsOk Go.Proofs.Tryz.prog srf7 := srfOk6.over 3 (iMemo sres6)
theorem srxOk7 : IxOk Go.Proofs.Tryz.prog srx7 := srxOk6.over (pSem_sound Go.Proofs.Tryz.call3)
theorem srxR7 : IxR srf7 srx7 := srxR6.over (iMemo_R1 srall6)
end Go.XS.Tryz
