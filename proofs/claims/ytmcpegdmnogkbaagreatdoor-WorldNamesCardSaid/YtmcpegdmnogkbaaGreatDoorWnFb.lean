/- The tables of a run: facts of the functions. -/
import Derived.Test.YtmcpegdmnogkbaaGreatDoorWnTa
import Derived.Test.YtmcpegdmnogkbaaGreatDoorThL
import Derived.Test.YtmcpegdmnogkbaaGreatDoorXsClosed
import Derived.Test.YtmcpegdmnogkbaaGreatDoorXiIns
import Derived.Test.YtmcpegdmnogkbaaGreatDoorXiBase
import Derived.Test.YtmcpegdmnogkbaaGreatDoorXiTrim
import Derived.Test.YtmcpegdmnogkbaaGreatDoorXsTab
import Derived.Test.YtmcpegdmnogkbaaGreatDoorXsFastE
import Derived.Test.YtmcpegdmnogkbaaGreatDoorWnMr0
set_option linter.unusedSimpArgs false
set_option linter.unusedVariables false
namespace Go.XS.Tryz
open Go Go.TS
set_option maxRecDepth 100000
theorem ck62 : codeOk hn0 Go.Proofs.Tryz.f62.ntmps (Go.Proofs.Tryz.f62.body.getD .skip) = true := by kernel_rfl
theorem ck33 : codeOk hn0 Go.Proofs.Tryz.f33.ntmps (Go.Proofs.Tryz.f33.body.getD .skip) = true := by kernel_rfl
theorem ck26 : codeOk hn0 Go.Proofs.Tryz.f26.ntmps (Go.Proofs.Tryz.f26.body.getD .skip) = true := by kernel_rfl
theorem ck15 : codeOk hn0 Go.Proofs.Tryz.f15.ntmps (Go.Proofs.Tryz.f15.body.getD .skip) = true := by kernel_rfl
theorem ck16 : codeOk hn0 Go.Proofs.Tryz.f16.ntmps (Go.Proofs.Tryz.f16.body.getD .skip) = true := by kernel_rfl
theorem ck17 : codeOk hn0 Go.Proofs.Tryz.f17.ntmps (Go.Proofs.Tryz.f17.body.getD .skip) = true := by kernel_rfl
theorem ck63 : codeOk hn0 Go.Proofs.Tryz.f63.ntmps (Go.Proofs.Tryz.f63.body.getD .skip) = true := by kernel_rfl
theorem ck64 : codeOk hn0 Go.Proofs.Tryz.f64.ntmps (Go.Proofs.Tryz.f64.body.getD .skip) = true := by kernel_rfl
theorem ck34 : codeOk hn0 Go.Proofs.Tryz.f34.ntmps (Go.Proofs.Tryz.f34.body.getD .skip) = true := by kernel_rfl
theorem ck29 : codeOk hn0 Go.Proofs.Tryz.f29.ntmps (Go.Proofs.Tryz.f29.body.getD .skip) = true := by kernel_rfl
theorem ck91 : codeOk hn0 Go.Proofs.Tryz.f91.ntmps (Go.Proofs.Tryz.f91.body.getD .skip) = true := by kernel_rfl
theorem ck96 : codeOk hn0 Go.Proofs.Tryz.f96.ntmps (Go.Proofs.Tryz.f96.body.getD .skip) = true := by kernel_rfl
theorem ck61 : codeOk hn0 Go.Proofs.Tryz.f61.ntmps (Go.Proofs.Tryz.f61.body.getD .skip) = true := by kernel_rfl
theorem ck30 : codeOk hn0 Go.Proofs.Tryz.f30.ntmps (Go.Proofs.Tryz.f30.body.getD .skip) = true := by kernel_rfl
theorem ck69 : codeOk hn0 Go.Proofs.Tryz.f69.ntmps (Go.Proofs.Tryz.f69.body.getD .skip) = true := by kernel_rfl
theorem ck176 : codeOk hn0 Go.Proofs.Tryz.f176.ntmps (Go.Proofs.Tryz.f176.body.getD .skip) = true := by kernel_rfl
theorem ck158 : codeOk hn0 Go.Proofs.Tryz.f158.ntmps (Go.Proofs.Tryz.f158.body.getD .skip) = true := by kernel_rfl
theorem ck345 : codeOk hn0 Go.Proofs.Tryz.f345.ntmps (Go.Proofs.Tryz.f345.body.getD .skip) = true := by kernel_rfl
theorem ck249 : codeOk hn0 Go.Proofs.Tryz.f249.ntmps (Go.Proofs.Tryz.f249.body.getD .skip) = true := by kernel_rfl
theorem ck283 : codeOk hn0 Go.Proofs.Tryz.f283.ntmps (Go.Proofs.Tryz.f283.body.getD .skip) = true := by kernel_rfl
theorem ck321 : codeOk hn0 Go.Proofs.Tryz.f321.ntmps (Go.Proofs.Tryz.f321.body.getD .skip) = true := by kernel_rfl
theorem ck145 : codeOk hn0 Go.Proofs.Tryz.f145.ntmps (Go.Proofs.Tryz.f145.body.getD .skip) = true := by kernel_rfl
theorem ck254 : codeOk hn0 Go.Proofs.Tryz.f254.ntmps (Go.Proofs.Tryz.f254.body.getD .skip) = true := by kernel_rfl
theorem ck28 : codeOk hn0 Go.Proofs.Tryz.f28.ntmps (Go.Proofs.Tryz.f28.body.getD .skip) = true := by kernel_rfl
theorem ck97 : codeOk hn0 Go.Proofs.Tryz.f97.ntmps (Go.Proofs.Tryz.f97.body.getD .skip) = true := by kernel_rfl
theorem ck268 : codeOk hn0 Go.Proofs.Tryz.f268.ntmps (Go.Proofs.Tryz.f268.body.getD .skip) = true := by kernel_rfl
theorem ck342 : codeOk hn0 Go.Proofs.Tryz.f342.ntmps (Go.Proofs.Tryz.f342.body.getD .skip) = true := by kernel_rfl
theorem ck243 : codeOk hn0 Go.Proofs.Tryz.f243.ntmps (Go.Proofs.Tryz.f243.body.getD .skip) = true := by kernel_rfl
theorem ck365 : codeOk hn0 Go.Proofs.Tryz.f365.ntmps (Go.Proofs.Tryz.f365.body.getD .skip) = true := by kernel_rfl
theorem ck366 : codeOk hn0 Go.Proofs.Tryz.f366.ntmps (Go.Proofs.Tryz.f366.body.getD .skip) = true := by kernel_rfl
theorem ck255 : codeOk hn0 Go.Proofs.Tryz.f255.ntmps (Go.Proofs.Tryz.f255.body.getD .skip) = true := by kernel_rfl
theorem ck256 : codeOk hn0 Go.Proofs.Tryz.f256.ntmps (Go.Proofs.Tryz.f256.body.getD .skip) = true := by kernel_rfl
theorem ck156 : codeOk hn0 Go.Proofs.Tryz.f156.ntmps (Go.Proofs.Tryz.f156.body.getD .skip) = true := by kernel_rfl
theorem ck368 : codeOk hn0 Go.Proofs.Tryz.f368.ntmps (Go.Proofs.Tryz.f368.body.getD .skip) = true := by kernel_rfl
theorem ck367 : codeOk hn0 Go.Proofs.Tryz.f367.ntmps (Go.Proofs.Tryz.f367.body.getD .skip) = true := by kernel_rfl
theorem ck378 : codeOk hn0 Go.Proofs.Tryz.f378.ntmps (Go.Proofs.Tryz.f378.body.getD .skip) = true := by kernel_rfl
theorem ck284 : codeOk hn0 Go.Proofs.Tryz.f284.ntmps (Go.Proofs.Tryz.f284.body.getD .skip) = true := by kernel_rfl
theorem ck181 : codeOk hn0 Go.Proofs.Tryz.f181.ntmps (Go.Proofs.Tryz.f181.body.getD .skip) = true := by kernel_rfl
theorem ck442 : codeOk hn0 Go.Proofs.Tryz.f442.ntmps (Go.Proofs.Tryz.f442.body.getD .skip) = true := by kernel_rfl
theorem ck364 : codeOk hn0 Go.Proofs.Tryz.f364.ntmps (Go.Proofs.Tryz.f364.body.getD .skip) = true := by kernel_rfl
theorem ck379 : codeOk hn0 Go.Proofs.Tryz.f379.ntmps (Go.Proofs.Tryz.f379.body.getD .skip) = true := by kernel_rfl
theorem ck285 : codeOk hn0 Go.Proofs.Tryz.f285.ntmps (Go.Proofs.Tryz.f285.body.getD .skip) = true := by kernel_rfl
theorem ck286 : codeOk hn0 Go.Proofs.Tryz.f286.ntmps (Go.Proofs.Tryz.f286.body.getD .skip) = true := by kernel_rfl
theorem ck180 : codeOk hn0 Go.Proofs.Tryz.f180.ntmps (Go.Proofs.Tryz.f180.body.getD .skip) = true := by kernel_rfl
theorem ck269 : codeOk hn0 Go.Proofs.Tryz.f269.ntmps (Go.Proofs.Tryz.f269.body.getD .skip) = true := by kernel_rfl
theorem ck358 : codeOk hn0 Go.Proofs.Tryz.f358.ntmps (Go.Proofs.Tryz.f358.body.getD .skip) = true := by kernel_rfl
theorem ck282 : codeOk hn0 Go.Proofs.Tryz.f282.ntmps (Go.Proofs.Tryz.f282.body.getD .skip) = true := by kernel_rfl
theorem ck371 : codeOk hn0 Go.Proofs.Tryz.f371.ntmps (Go.Proofs.Tryz.f371.body.getD .skip) = true := by kernel_rfl
theorem ck272 : codeOk hn0 Go.Proofs.Tryz.f272.ntmps (Go.Proofs.Tryz.f272.body.getD .skip) = true := by kernel_rfl
theorem ck290 : codeOk hn0 Go.Proofs.Tryz.f290.ntmps (Go.Proofs.Tryz.f290.body.getD .skip) = true := by kernel_rfl
theorem ck291 : codeOk hn0 Go.Proofs.Tryz.f291.ntmps (Go.Proofs.Tryz.f291.body.getD .skip) = true := by kernel_rfl
theorem ck271 : codeOk hn0 Go.Proofs.Tryz.f271.ntmps (Go.Proofs.Tryz.f271.body.getD .skip) = true := by kernel_rfl
theorem ck169 : codeOk hn0 Go.Proofs.Tryz.f169.ntmps (Go.Proofs.Tryz.f169.body.getD .skip) = true := by kernel_rfl
theorem ck179 : codeOk hn0 Go.Proofs.Tryz.f179.ntmps (Go.Proofs.Tryz.f179.body.getD .skip) = true := by kernel_rfl
theorem ck373 : codeOk hn0 Go.Proofs.Tryz.f373.ntmps (Go.Proofs.Tryz.f373.body.getD .skip) = true := by kernel_rfl
theorem ck372 : codeOk hn0 Go.Proofs.Tryz.f372.ntmps (Go.Proofs.Tryz.f372.body.getD .skip) = true := by kernel_rfl
theorem ck273 : codeOk hn0 Go.Proofs.Tryz.f273.ntmps (Go.Proofs.Tryz.f273.body.getD .skip) = true := by kernel_rfl
theorem ck171 : codeOk hn0 Go.Proofs.Tryz.f171.ntmps (Go.Proofs.Tryz.f171.body.getD .skip) = true := by kernel_rfl
theorem ck423 : codeOk hn0 Go.Proofs.Tryz.f423.ntmps (Go.Proofs.Tryz.f423.body.getD .skip) = true := by kernel_rfl
theorem ck341 : codeOk hn0 Go.Proofs.Tryz.f341.ntmps (Go.Proofs.Tryz.f341.body.getD .skip) = true := by kernel_rfl
theorem ck236 : codeOk hn0 Go.Proofs.Tryz.f236.ntmps (Go.Proofs.Tryz.f236.body.getD .skip) = true := by kernel_rfl
theorem ck280 : codeOk hn0 Go.Proofs.Tryz.f280.ntmps (Go.Proofs.Tryz.f280.body.getD .skip) = true := by kernel_rfl
theorem ck420 : codeOk hn0 Go.Proofs.Tryz.f420.ntmps (Go.Proofs.Tryz.f420.body.getD .skip) = true := by kernel_rfl
theorem ck377 : codeOk hn0 Go.Proofs.Tryz.f377.ntmps (Go.Proofs.Tryz.f377.body.getD .skip) = true := by kernel_rfl
theorem ck281 : codeOk hn0 Go.Proofs.Tryz.f281.ntmps (Go.Proofs.Tryz.f281.body.getD .skip) = true := by kernel_rfl
theorem ck177 : codeOk hn0 Go.Proofs.Tryz.f177.ntmps (Go.Proofs.Tryz.f177.body.getD .skip) = true := by kernel_rfl
theorem ck305 : codeOk hn0 Go.Proofs.Tryz.f305.ntmps (Go.Proofs.Tryz.f305.body.getD .skip) = true := by kernel_rfl
theorem ck307 : codeOk hn0 Go.Proofs.Tryz.f307.ntmps (Go.Proofs.Tryz.f307.body.getD .skip) = true := by kernel_rfl
theorem ck194 : codeOk hn0 Go.Proofs.Tryz.f194.ntmps (Go.Proofs.Tryz.f194.body.getD .skip) = true := by kernel_rfl
theorem ck178 : codeOk hn0 Go.Proofs.Tryz.f178.ntmps (Go.Proofs.Tryz.f178.body.getD .skip) = true := by kernel_rfl
theorem ck102 : codeOk hn0 Go.Proofs.Tryz.f102.ntmps (Go.Proofs.Tryz.f102.body.getD .skip) = true := by kernel_rfl
theorem ck73 : codeOk hn0 Go.Proofs.Tryz.f73.ntmps (Go.Proofs.Tryz.f73.body.getD .skip) = true := by kernel_rfl
theorem ck44 : codeOk hn0 Go.Proofs.Tryz.f44.ntmps (Go.Proofs.Tryz.f44.body.getD .skip) = true := by kernel_rfl
theorem ck82 : codeOk hn0 Go.Proofs.Tryz.f82.ntmps (Go.Proofs.Tryz.f82.body.getD .skip) = true := by kernel_rfl
theorem ck75 : codeOk hn0 Go.Proofs.Tryz.f75.ntmps (Go.Proofs.Tryz.f75.body.getD .skip) = true := by kernel_rfl
theorem ck106 : codeOk hn0 Go.Proofs.Tryz.f106.ntmps (Go.Proofs.Tryz.f106.body.getD .skip) = true := by kernel_rfl
theorem ck76 : codeOk hn0 Go.Proofs.Tryz.f76.ntmps (Go.Proofs.Tryz.f76.body.getD .skip) = true := by kernel_rfl
theorem ck108 : codeOk hn0 Go.Proofs.Tryz.f108.ntmps (Go.Proofs.Tryz.f108.body.getD .skip) = true := by kernel_rfl
theorem ck114 : codeOk hn0 Go.Proofs.Tryz.f114.ntmps (Go.Proofs.Tryz.f114.body.getD .skip) = true := by kernel_rfl
theorem ck192 : codeOk hn0 Go.Proofs.Tryz.f192.ntmps (Go.Proofs.Tryz.f192.body.getD .skip) = true := by kernel_rfl
theorem ck380 : codeOk hn0 Go.Proofs.Tryz.f380.ntmps (Go.Proofs.Tryz.f380.body.getD .skip) = true := by kernel_rfl
theorem ck554 : codeOk hn0 Go.Proofs.Tryz.f554.ntmps (Go.Proofs.Tryz.f554.body.getD .skip) = true := by kernel_rfl
theorem ck111 : codeOk hn0 Go.Proofs.Tryz.f111.ntmps (Go.Proofs.Tryz.f111.body.getD .skip) = true := by kernel_rfl
theorem ck261 : codeOk hn0 Go.Proofs.Tryz.f261.ntmps (Go.Proofs.Tryz.f261.body.getD .skip) = true := by kernel_rfl
theorem ck292 : codeOk hn0 Go.Proofs.Tryz.f292.ntmps (Go.Proofs.Tryz.f292.body.getD .skip) = true := by kernel_rfl
theorem ck381 : codeOk hn0 Go.Proofs.Tryz.f381.ntmps (Go.Proofs.Tryz.f381.body.getD .skip) = true := by kernel_rfl
theorem ck293 : codeOk hn0 Go.Proofs.Tryz.f293.ntmps (Go.Proofs.Tryz.f293.body.getD .skip) = true := by kernel_rfl
theorem ck188 : codeOk hn0 Go.Proofs.Tryz.f188.ntmps (Go.Proofs.Tryz.f188.body.getD .skip) = true := by kernel_rfl
theorem ck553 : codeOk hn0 Go.Proofs.Tryz.f553.ntmps (Go.Proofs.Tryz.f553.body.getD .skip) = true := by kernel_rfl
theorem ck190 : codeOk hn0 Go.Proofs.Tryz.f190.ntmps (Go.Proofs.Tryz.f190.body.getD .skip) = true := by kernel_rfl
theorem ck250 : codeOk hn0 Go.Proofs.Tryz.f250.ntmps (Go.Proofs.Tryz.f250.body.getD .skip) = true := by kernel_rfl
theorem ck152 : codeOk hn0 Go.Proofs.Tryz.f152.ntmps (Go.Proofs.Tryz.f152.body.getD .skip) = true := by kernel_rfl
theorem ck153 : codeOk hn0 Go.Proofs.Tryz.f153.ntmps (Go.Proofs.Tryz.f153.body.getD .skip) = true := by kernel_rfl
theorem ck226 : codeOk hn0 Go.Proofs.Tryz.f226.ntmps (Go.Proofs.Tryz.f226.body.getD .skip) = true := by kernel_rfl
theorem ck136 : codeOk hn0 Go.Proofs.Tryz.f136.ntmps (Go.Proofs.Tryz.f136.body.getD .skip) = true := by kernel_rfl
theorem ck308 : codeOk hn0 Go.Proofs.Tryz.f308.ntmps (Go.Proofs.Tryz.f308.body.getD .skip) = true := by kernel_rfl
theorem ck195 : codeOk hn0 Go.Proofs.Tryz.f195.ntmps (Go.Proofs.Tryz.f195.body.getD .skip) = true := by kernel_rfl
theorem ck196 : codeOk hn0 Go.Proofs.Tryz.f196.ntmps (Go.Proofs.Tryz.f196.body.getD .skip) = true := by kernel_rfl
theorem ck197 : codeOk hn0 Go.Proofs.Tryz.f197.ntmps (Go.Proofs.Tryz.f197.body.getD .skip) = true := by kernel_rfl
theorem ck375 : codeOk hn0 Go.Proofs.Tryz.f375.ntmps (Go.Proofs.Tryz.f375.body.getD .skip) = true := by kernel_rfl
theorem ck448 : codeOk hn0 Go.Proofs.Tryz.f448.ntmps (Go.Proofs.Tryz.f448.body.getD .skip) = true := by kernel_rfl
theorem ck387 : codeOk hn0 Go.Proofs.Tryz.f387.ntmps (Go.Proofs.Tryz.f387.body.getD .skip) = true := by kernel_rfl
theorem ck295 : codeOk hn0 Go.Proofs.Tryz.f295.ntmps (Go.Proofs.Tryz.f295.body.getD .skip) = true := by kernel_rfl
theorem ck276 : codeOk hn0 Go.Proofs.Tryz.f276.ntmps (Go.Proofs.Tryz.f276.body.getD .skip) = true := by kernel_rfl
theorem ck389 : codeOk hn0 Go.Proofs.Tryz.f389.ntmps (Go.Proofs.Tryz.f389.body.getD .skip) = true := by kernel_rfl
theorem ck297 : codeOk hn0 Go.Proofs.Tryz.f297.ntmps (Go.Proofs.Tryz.f297.body.getD .skip) = true := by kernel_rfl
theorem ck298 : codeOk hn0 Go.Proofs.Tryz.f298.ntmps (Go.Proofs.Tryz.f298.body.getD .skip) = true := by kernel_rfl
theorem ck413 : codeOk hn0 Go.Proofs.Tryz.f413.ntmps (Go.Proofs.Tryz.f413.body.getD .skip) = true := by kernel_rfl
theorem ck324 : codeOk hn0 Go.Proofs.Tryz.f324.ntmps (Go.Proofs.Tryz.f324.body.getD .skip) = true := by kernel_rfl
theorem ck415 : codeOk hn0 Go.Proofs.Tryz.f415.ntmps (Go.Proofs.Tryz.f415.body.getD .skip) = true := by kernel_rfl
theorem ck416 : codeOk hn0 Go.Proofs.Tryz.f416.ntmps (Go.Proofs.Tryz.f416.body.getD .skip) = true := by kernel_rfl
theorem ck356 : codeOk hn0 Go.Proofs.Tryz.f356.ntmps (Go.Proofs.Tryz.f356.body.getD .skip) = true := by kernel_rfl
theorem ck252 : codeOk hn0 Go.Proofs.Tryz.f252.ntmps (Go.Proofs.Tryz.f252.body.getD .skip) = true := by kernel_rfl
theorem ck523 : codeOk hn0 Go.Proofs.Tryz.f523.ntmps (Go.Proofs.Tryz.f523.body.getD .skip) = true := by kernel_rfl
theorem ck513 : codeOk hn0 Go.Proofs.Tryz.f513.ntmps (Go.Proofs.Tryz.f513.body.getD .skip) = true := by kernel_rfl
theorem ck492 : codeOk hn0 Go.Proofs.Tryz.f492.ntmps (Go.Proofs.Tryz.f492.body.getD .skip) = true := by kernel_rfl
theorem ck466 : codeOk hn0 Go.Proofs.Tryz.f466.ntmps (Go.Proofs.Tryz.f466.body.getD .skip) = true := by kernel_rfl
theorem ck412 : codeOk hn0 Go.Proofs.Tryz.f412.ntmps (Go.Proofs.Tryz.f412.body.getD .skip) = true := by kernel_rfl
theorem ck323 : codeOk hn0 Go.Proofs.Tryz.f323.ntmps (Go.Proofs.Tryz.f323.body.getD .skip) = true := by kernel_rfl
theorem ck329 : codeOk hn0 Go.Proofs.Tryz.f329.ntmps (Go.Proofs.Tryz.f329.body.getD .skip) = true := by kernel_rfl
theorem ck414 : codeOk hn0 Go.Proofs.Tryz.f414.ntmps (Go.Proofs.Tryz.f414.body.getD .skip) = true := by kernel_rfl
theorem ck327 : codeOk hn0 Go.Proofs.Tryz.f327.ntmps (Go.Proofs.Tryz.f327.body.getD .skip) = true := by kernel_rfl
theorem ck328 : codeOk hn0 Go.Proofs.Tryz.f328.ntmps (Go.Proofs.Tryz.f328.body.getD .skip) = true := by kernel_rfl
theorem ck418 : codeOk hn0 Go.Proofs.Tryz.f418.ntmps (Go.Proofs.Tryz.f418.body.getD .skip) = true := by kernel_rfl
theorem ck419 : codeOk hn0 Go.Proofs.Tryz.f419.ntmps (Go.Proofs.Tryz.f419.body.getD .skip) = true := by kernel_rfl
theorem ck330 : codeOk hn0 Go.Proofs.Tryz.f330.ntmps (Go.Proofs.Tryz.f330.body.getD .skip) = true := by kernel_rfl
theorem ck331 : codeOk hn0 Go.Proofs.Tryz.f331.ntmps (Go.Proofs.Tryz.f331.body.getD .skip) = true := by kernel_rfl
theorem ck222 : codeOk hn0 Go.Proofs.Tryz.f222.ntmps (Go.Proofs.Tryz.f222.body.getD .skip) = true := by kernel_rfl
theorem ck359 : codeOk hn0 Go.Proofs.Tryz.f359.ntmps (Go.Proofs.Tryz.f359.body.getD .skip) = true := by kernel_rfl
theorem ck163 : codeOk hn0 Go.Proofs.Tryz.f163.ntmps (Go.Proofs.Tryz.f163.body.getD .skip) = true := by kernel_rfl
theorem ck253 : codeOk hn0 Go.Proofs.Tryz.f253.ntmps (Go.Proofs.Tryz.f253.body.getD .skip) = true := by kernel_rfl
theorem ck265 : codeOk hn0 Go.Proofs.Tryz.f265.ntmps (Go.Proofs.Tryz.f265.body.getD .skip) = true := by kernel_rfl
theorem ck436 : codeOk hn0 Go.Proofs.Tryz.f436.ntmps (Go.Proofs.Tryz.f436.body.getD .skip) = true := by kernel_rfl
theorem ck352 : codeOk hn0 Go.Proofs.Tryz.f352.ntmps (Go.Proofs.Tryz.f352.body.getD .skip) = true := by kernel_rfl
theorem ck456 : codeOk hn0 Go.Proofs.Tryz.f456.ntmps (Go.Proofs.Tryz.f456.body.getD .skip) = true := by kernel_rfl
theorem ck402 : codeOk hn0 Go.Proofs.Tryz.f402.ntmps (Go.Proofs.Tryz.f402.body.getD .skip) = true := by kernel_rfl
theorem ck455 : codeOk hn0 Go.Proofs.Tryz.f455.ntmps (Go.Proofs.Tryz.f455.body.getD .skip) = true := by kernel_rfl
theorem ck474 : codeOk hn0 Go.Proofs.Tryz.f474.ntmps (Go.Proofs.Tryz.f474.body.getD .skip) = true := by kernel_rfl
theorem ck437 : codeOk hn0 Go.Proofs.Tryz.f437.ntmps (Go.Proofs.Tryz.f437.body.getD .skip) = true := by kernel_rfl
theorem ck360 : codeOk hn0 Go.Proofs.Tryz.f360.ntmps (Go.Proofs.Tryz.f360.body.getD .skip) = true := by kernel_rfl
theorem ck260 : codeOk hn0 Go.Proofs.Tryz.f260.ntmps (Go.Proofs.Tryz.f260.body.getD .skip) = true := by kernel_rfl
theorem ck333 : codeOk hn0 Go.Proofs.Tryz.f333.ntmps (Go.Proofs.Tryz.f333.body.getD .skip) = true := by kernel_rfl
theorem ck334 : codeOk hn0 Go.Proofs.Tryz.f334.ntmps (Go.Proofs.Tryz.f334.body.getD .skip) = true := by kernel_rfl
theorem ck227 : codeOk hn0 Go.Proofs.Tryz.f227.ntmps (Go.Proofs.Tryz.f227.body.getD .skip) = true := by kernel_rfl
theorem ck300 : codeOk hn0 Go.Proofs.Tryz.f300.ntmps (Go.Proofs.Tryz.f300.body.getD .skip) = true := by kernel_rfl
theorem ck201 : codeOk hn0 Go.Proofs.Tryz.f201.ntmps (Go.Proofs.Tryz.f201.body.getD .skip) = true := by kernel_rfl
theorem ck395 : codeOk hn0 Go.Proofs.Tryz.f395.ntmps (Go.Proofs.Tryz.f395.body.getD .skip) = true := by kernel_rfl
theorem ck452 : codeOk hn0 Go.Proofs.Tryz.f452.ntmps (Go.Proofs.Tryz.f452.body.getD .skip) = true := by kernel_rfl
theorem ck397 : codeOk hn0 Go.Proofs.Tryz.f397.ntmps (Go.Proofs.Tryz.f397.body.getD .skip) = true := by kernel_rfl
theorem ck396 : codeOk hn0 Go.Proofs.Tryz.f396.ntmps (Go.Proofs.Tryz.f396.body.getD .skip) = true := by kernel_rfl
theorem ck309 : codeOk hn0 Go.Proofs.Tryz.f309.ntmps (Go.Proofs.Tryz.f309.body.getD .skip) = true := by kernel_rfl
theorem ck357 : codeOk hn0 Go.Proofs.Tryz.f357.ntmps (Go.Proofs.Tryz.f357.body.getD .skip) = true := by kernel_rfl
theorem ck311 : codeOk hn0 Go.Proofs.Tryz.f311.ntmps (Go.Proofs.Tryz.f311.body.getD .skip) = true := by kernel_rfl
theorem ck453 : codeOk hn0 Go.Proofs.Tryz.f453.ntmps (Go.Proofs.Tryz.f453.body.getD .skip) = true := by kernel_rfl
theorem ck398 : codeOk hn0 Go.Proofs.Tryz.f398.ntmps (Go.Proofs.Tryz.f398.body.getD .skip) = true := by kernel_rfl
theorem ck400 : codeOk hn0 Go.Proofs.Tryz.f400.ntmps (Go.Proofs.Tryz.f400.body.getD .skip) = true := by kernel_rfl
theorem ck336 : codeOk hn0 Go.Proofs.Tryz.f336.ntmps (Go.Proofs.Tryz.f336.body.getD .skip) = true := by kernel_rfl
theorem ck335 : codeOk hn0 Go.Proofs.Tryz.f335.ntmps (Go.Proofs.Tryz.f335.body.getD .skip) = true := by kernel_rfl
theorem ck302 : codeOk hn0 Go.Proofs.Tryz.f302.ntmps (Go.Proofs.Tryz.f302.body.getD .skip) = true := by kernel_rfl
theorem ck301 : codeOk hn0 Go.Proofs.Tryz.f301.ntmps (Go.Proofs.Tryz.f301.body.getD .skip) = true := by kernel_rfl
theorem ck191 : codeOk hn0 Go.Proofs.Tryz.f191.ntmps (Go.Proofs.Tryz.f191.body.getD .skip) = true := by kernel_rfl
theorem ck110 : codeOk hn0 Go.Proofs.Tryz.f110.ntmps (Go.Proofs.Tryz.f110.body.getD .skip) = true := by kernel_rfl
theorem ck77 : codeOk hn0 Go.Proofs.Tryz.f77.ntmps (Go.Proofs.Tryz.f77.body.getD .skip) = true := by kernel_rfl
theorem ck45 : codeOk hn0 Go.Proofs.Tryz.f45.ntmps (Go.Proofs.Tryz.f45.body.getD .skip) = true := by kernel_rfl
theorem ck49 : codeOk hn0 Go.Proofs.Tryz.f49.ntmps (Go.Proofs.Tryz.f49.body.getD .skip) = true := by kernel_rfl
theorem ck24 : codeOk hn0 Go.Proofs.Tryz.f24.ntmps (Go.Proofs.Tryz.f24.body.getD .skip) = true := by kernel_rfl
theorem ck146 : codeOk hn0 Go.Proofs.Tryz.f146.ntmps (Go.Proofs.Tryz.f146.body.getD .skip) = true := by kernel_rfl
theorem ck89 : codeOk hn0 Go.Proofs.Tryz.f89.ntmps (Go.Proofs.Tryz.f89.body.getD .skip) = true := by kernel_rfl
theorem ck68 : codeOk hn0 Go.Proofs.Tryz.f68.ntmps (Go.Proofs.Tryz.f68.body.getD .skip) = true := by kernel_rfl
theorem ck166 : codeOk hn0 Go.Proofs.Tryz.f166.ntmps (Go.Proofs.Tryz.f166.body.getD .skip) = true := by kernel_rfl
theorem ck242 : codeOk hn0 Go.Proofs.Tryz.f242.ntmps (Go.Proofs.Tryz.f242.body.getD .skip) = true := by kernel_rfl
theorem ck369 : codeOk hn0 Go.Proofs.Tryz.f369.ntmps (Go.Proofs.Tryz.f369.body.getD .skip) = true := by kernel_rfl
theorem ck267 : codeOk hn0 Go.Proofs.Tryz.f267.ntmps (Go.Proofs.Tryz.f267.body.getD .skip) = true := by kernel_rfl
theorem ck244 : codeOk hn0 Go.Proofs.Tryz.f244.ntmps (Go.Proofs.Tryz.f244.body.getD .skip) = true := by kernel_rfl
theorem ck245 : codeOk hn0 Go.Proofs.Tryz.f245.ntmps (Go.Proofs.Tryz.f245.body.getD .skip) = true := by kernel_rfl
theorem ck147 : codeOk hn0 Go.Proofs.Tryz.f147.ntmps (Go.Proofs.Tryz.f147.body.getD .skip) = true := by kernel_rfl
theorem ck246 : codeOk hn0 Go.Proofs.Tryz.f246.ntmps (Go.Proofs.Tryz.f246.body.getD .skip) = true := by kernel_rfl
theorem ck247 : codeOk hn0 Go.Proofs.Tryz.f247.ntmps (Go.Proofs.Tryz.f247.body.getD .skip) = true := by kernel_rfl
theorem ck287 : codeOk hn0 Go.Proofs.Tryz.f287.ntmps (Go.Proofs.Tryz.f287.body.getD .skip) = true := by kernel_rfl
theorem ck184 : codeOk hn0 Go.Proofs.Tryz.f184.ntmps (Go.Proofs.Tryz.f184.body.getD .skip) = true := by kernel_rfl
theorem ck424 : codeOk hn0 Go.Proofs.Tryz.f424.ntmps (Go.Proofs.Tryz.f424.body.getD .skip) = true := by kernel_rfl
theorem ck344 : codeOk hn0 Go.Proofs.Tryz.f344.ntmps (Go.Proofs.Tryz.f344.body.getD .skip) = true := by kernel_rfl
theorem ck343 : codeOk hn0 Go.Proofs.Tryz.f343.ntmps (Go.Proofs.Tryz.f343.body.getD .skip) = true := by kernel_rfl
theorem ck248 : codeOk hn0 Go.Proofs.Tryz.f248.ntmps (Go.Proofs.Tryz.f248.body.getD .skip) = true := by kernel_rfl
theorem ck148 : codeOk hn0 Go.Proofs.Tryz.f148.ntmps (Go.Proofs.Tryz.f148.body.getD .skip) = true := by kernel_rfl
theorem ck374 : codeOk hn0 Go.Proofs.Tryz.f374.ntmps (Go.Proofs.Tryz.f374.body.getD .skip) = true := by kernel_rfl
theorem ck289 : codeOk hn0 Go.Proofs.Tryz.f289.ntmps (Go.Proofs.Tryz.f289.body.getD .skip) = true := by kernel_rfl
theorem ck183 : codeOk hn0 Go.Proofs.Tryz.f183.ntmps (Go.Proofs.Tryz.f183.body.getD .skip) = true := by kernel_rfl
theorem ck185 : codeOk hn0 Go.Proofs.Tryz.f185.ntmps (Go.Proofs.Tryz.f185.body.getD .skip) = true := by kernel_rfl
theorem ck186 : codeOk hn0 Go.Proofs.Tryz.f186.ntmps (Go.Proofs.Tryz.f186.body.getD .skip) = true := by kernel_rfl
theorem ck150 : codeOk hn0 Go.Proofs.Tryz.f150.ntmps (Go.Proofs.Tryz.f150.body.getD .skip) = true := by kernel_rfl
theorem ck262 : codeOk hn0 Go.Proofs.Tryz.f262.ntmps (Go.Proofs.Tryz.f262.body.getD .skip) = true := by kernel_rfl
theorem ck161 : codeOk hn0 Go.Proofs.Tryz.f161.ntmps (Go.Proofs.Tryz.f161.body.getD .skip) = true := by kernel_rfl
theorem ck151 : codeOk hn0 Go.Proofs.Tryz.f151.ntmps (Go.Proofs.Tryz.f151.body.getD .skip) = true := by kernel_rfl
theorem ck346 : codeOk hn0 Go.Proofs.Tryz.f346.ntmps (Go.Proofs.Tryz.f346.body.getD .skip) = true := by kernel_rfl
theorem ck251 : codeOk hn0 Go.Proofs.Tryz.f251.ntmps (Go.Proofs.Tryz.f251.body.getD .skip) = true := by kernel_rfl
theorem ck154 : codeOk hn0 Go.Proofs.Tryz.f154.ntmps (Go.Proofs.Tryz.f154.body.getD .skip) = true := by kernel_rfl
theorem ck155 : codeOk hn0 Go.Proofs.Tryz.f155.ntmps (Go.Proofs.Tryz.f155.body.getD .skip) = true := by kernel_rfl
theorem ck90 : codeOk hn0 Go.Proofs.Tryz.f90.ntmps (Go.Proofs.Tryz.f90.body.getD .skip) = true := by kernel_rfl
theorem ck57 : codeOk hn0 Go.Proofs.Tryz.f57.ntmps (Go.Proofs.Tryz.f57.body.getD .skip) = true := by kernel_rfl
theorem ck58 : codeOk hn0 Go.Proofs.Tryz.f58.ntmps (Go.Proofs.Tryz.f58.body.getD .skip) = true := by kernel_rfl
theorem ck59 : codeOk hn0 Go.Proofs.Tryz.f59.ntmps (Go.Proofs.Tryz.f59.body.getD .skip) = true := by kernel_rfl
theorem ck25 : codeOk hn0 Go.Proofs.Tryz.f25.ntmps (Go.Proofs.Tryz.f25.body.getD .skip) = true := by kernel_rfl
theorem ck6 : codeOk hn0 Go.Proofs.Tryz.f6.ntmps (Go.Proofs.Tryz.f6.body.getD .skip) = true := by kernel_rfl
theorem ck9 : codeOk hn0 Go.Proofs.Tryz.f9.ntmps (Go.Proofs.Tryz.f9.body.getD .skip) = true := by kernel_rfl
theorem ck159 : codeOk hn0 Go.Proofs.Tryz.f159.ntmps (Go.Proofs.Tryz.f159.body.getD .skip) = true := by kernel_rfl
theorem ck160 : codeOk hn0 Go.Proofs.Tryz.f160.ntmps (Go.Proofs.Tryz.f160.body.getD .skip) = true := by kernel_rfl
theorem ck162 : codeOk hn0 Go.Proofs.Tryz.f162.ntmps (Go.Proofs.Tryz.f162.body.getD .skip) = true := by kernel_rfl
theorem ck440 : codeOk hn0 Go.Proofs.Tryz.f440.ntmps (Go.Proofs.Tryz.f440.body.getD .skip) = true := by kernel_rfl
theorem ck362 : codeOk hn0 Go.Proofs.Tryz.f362.ntmps (Go.Proofs.Tryz.f362.body.getD .skip) = true := by kernel_rfl
theorem ck441 : codeOk hn0 Go.Proofs.Tryz.f441.ntmps (Go.Proofs.Tryz.f441.body.getD .skip) = true := by kernel_rfl
theorem ck363 : codeOk hn0 Go.Proofs.Tryz.f363.ntmps (Go.Proofs.Tryz.f363.body.getD .skip) = true := by kernel_rfl
theorem ck264 : codeOk hn0 Go.Proofs.Tryz.f264.ntmps (Go.Proofs.Tryz.f264.body.getD .skip) = true := by kernel_rfl
theorem ck164 : codeOk hn0 Go.Proofs.Tryz.f164.ntmps (Go.Proofs.Tryz.f164.body.getD .skip) = true := by kernel_rfl
theorem ck266 : codeOk hn0 Go.Proofs.Tryz.f266.ntmps (Go.Proofs.Tryz.f266.body.getD .skip) = true := by kernel_rfl
theorem ck165 : codeOk hn0 Go.Proofs.Tryz.f165.ntmps (Go.Proofs.Tryz.f165.body.getD .skip) = true := by kernel_rfl
theorem ck167 : codeOk hn0 Go.Proofs.Tryz.f167.ntmps (Go.Proofs.Tryz.f167.body.getD .skip) = true := by kernel_rfl
theorem ck94 : codeOk hn0 Go.Proofs.Tryz.f94.ntmps (Go.Proofs.Tryz.f94.body.getD .skip) = true := by kernel_rfl
theorem ck92 : codeOk hn0 Go.Proofs.Tryz.f92.ntmps (Go.Proofs.Tryz.f92.body.getD .skip) = true := by kernel_rfl
theorem ck257 : codeOk hn0 Go.Proofs.Tryz.f257.ntmps (Go.Proofs.Tryz.f257.body.getD .skip) = true := by kernel_rfl
theorem ck258 : codeOk hn0 Go.Proofs.Tryz.f258.ntmps (Go.Proofs.Tryz.f258.body.getD .skip) = true := by kernel_rfl
theorem ck259 : codeOk hn0 Go.Proofs.Tryz.f259.ntmps (Go.Proofs.Tryz.f259.body.getD .skip) = true := by kernel_rfl
theorem ck157 : codeOk hn0 Go.Proofs.Tryz.f157.ntmps (Go.Proofs.Tryz.f157.body.getD .skip) = true := by kernel_rfl
theorem ck93 : codeOk hn0 Go.Proofs.Tryz.f93.ntmps (Go.Proofs.Tryz.f93.body.getD .skip) = true := by kernel_rfl
theorem ck95 : codeOk hn0 Go.Proofs.Tryz.f95.ntmps (Go.Proofs.Tryz.f95.body.getD .skip) = true := by kernel_rfl
theorem ck60 : codeOk hn0 Go.Proofs.Tryz.f60.ntmps (Go.Proofs.Tryz.f60.body.getD .skip) = true := by kernel_rfl
theorem ck27 : codeOk hn0 Go.Proofs.Tryz.f27.ntmps (Go.Proofs.Tryz.f27.body.getD .skip) = true := by kernel_rfl
theorem ck65 : codeOk hn0 Go.Proofs.Tryz.f65.ntmps (Go.Proofs.Tryz.f65.body.getD .skip) = true := by kernel_rfl
theorem ck66 : codeOk hn0 Go.Proofs.Tryz.f66.ntmps (Go.Proofs.Tryz.f66.body.getD .skip) = true := by kernel_rfl
theorem ck35 : codeOk hn0 Go.Proofs.Tryz.f35.ntmps (Go.Proofs.Tryz.f35.body.getD .skip) = true := by kernel_rfl
theorem ck18 : codeOk hn0 Go.Proofs.Tryz.f18.ntmps (Go.Proofs.Tryz.f18.body.getD .skip) = true := by kernel_rfl
theorem ck19 : codeOk hn0 Go.Proofs.Tryz.f19.ntmps (Go.Proofs.Tryz.f19.body.getD .skip) = true := by kernel_rfl
theorem ck36 : codeOk hn0 Go.Proofs.Tryz.f36.ntmps (Go.Proofs.Tryz.f36.body.getD .skip) = true := by kernel_rfl
theorem ck67 : codeOk hn0 Go.Proofs.Tryz.f67.ntmps (Go.Proofs.Tryz.f67.body.getD .skip) = true := by kernel_rfl
theorem ck37 : codeOk hn0 Go.Proofs.Tryz.f37.ntmps (Go.Proofs.Tryz.f37.body.getD .skip) = true := by kernel_rfl
theorem ck20 : codeOk hn0 Go.Proofs.Tryz.f20.ntmps (Go.Proofs.Tryz.f20.body.getD .skip) = true := by kernel_rfl
theorem ck38 : codeOk hn0 Go.Proofs.Tryz.f38.ntmps (Go.Proofs.Tryz.f38.body.getD .skip) = true := by kernel_rfl
theorem ck71 : codeOk hn0 Go.Proofs.Tryz.f71.ntmps (Go.Proofs.Tryz.f71.body.getD .skip) = true := by kernel_rfl
theorem ck70 : codeOk hn0 Go.Proofs.Tryz.f70.ntmps (Go.Proofs.Tryz.f70.body.getD .skip) = true := by kernel_rfl
theorem ck40 : codeOk hn0 Go.Proofs.Tryz.f40.ntmps (Go.Proofs.Tryz.f40.body.getD .skip) = true := by kernel_rfl
theorem ck41 : codeOk hn0 Go.Proofs.Tryz.f41.ntmps (Go.Proofs.Tryz.f41.body.getD .skip) = true := by kernel_rfl
theorem ck39 : codeOk hn0 Go.Proofs.Tryz.f39.ntmps (Go.Proofs.Tryz.f39.body.getD .skip) = true := by kernel_rfl
theorem ck21 : codeOk hn0 Go.Proofs.Tryz.f21.ntmps (Go.Proofs.Tryz.f21.body.getD .skip) = true := by kernel_rfl
theorem ck42 : codeOk hn0 Go.Proofs.Tryz.f42.ntmps (Go.Proofs.Tryz.f42.body.getD .skip) = true := by kernel_rfl
theorem ck22 : codeOk hn0 Go.Proofs.Tryz.f22.ntmps (Go.Proofs.Tryz.f22.body.getD .skip) = true := by kernel_rfl
theorem ck4 : codeOk hn0 Go.Proofs.Tryz.f4.ntmps (Go.Proofs.Tryz.f4.body.getD .skip) = true := by kernel_rfl
theorem fnAll : FnAll Go.Proofs.Tryz.prog fnl := .code (c := Go.Proofs.Tryz.f62.body.getD .skip) Go.Proofs.Tryz.func62 rfl ck62 Go.Proofs.Tryz.call62 (.code (c := Go.Proofs.Tryz.f33.body.getD .skip) Go.Proofs.Tryz.func33 rfl ck33 Go.Proofs.Tryz.call33 (.code (c := Go.Proofs.Tryz.f26.body.getD .skip) Go.Proofs.Tryz.func26 rfl ck26 Go.Proofs.Tryz.call26 (.code (c := Go.Proofs.Tryz.f15.body.getD .skip) Go.Proofs.Tryz.func15 rfl ck15 Go.Proofs.Tryz.call15 (.code (c := Go.Proofs.Tryz.f16.body.getD .skip) Go.Proofs.Tryz.func16 rfl ck16 Go.Proofs.Tryz.call16 (.code (c := Go.Proofs.Tryz.f17.body.getD .skip) Go.Proofs.Tryz.func17 rfl ck17 Go.Proofs.Tryz.call17 (.code (c := Go.Proofs.Tryz.f63.body.getD .skip) Go.Proofs.Tryz.func63 rfl ck63 Go.Proofs.Tryz.call63 (.code (c := Go.Proofs.Tryz.f64.body.getD .skip) Go.Proofs.Tryz.func64 rfl ck64 Go.Proofs.Tryz.call64 (.code (c := Go.Proofs.Tryz.f34.body.getD .skip) Go.Proofs.Tryz.func34 rfl ck34 Go.Proofs.Tryz.call34 (.code (c := Go.Proofs.Tryz.f29.body.getD .skip) Go.Proofs.Tryz.func29 rfl ck29 Go.Proofs.Tryz.call29 (.code (c := Go.Proofs.Tryz.f91.body.getD .skip) Go.Proofs.Tryz.func91 rfl ck91 Go.Proofs.Tryz.call91 (.code (c := Go.Proofs.Tryz.f96.body.getD .skip) Go.Proofs.Tryz.func96 rfl ck96 Go.Proofs.Tryz.call96 (.code (c := Go.Proofs.Tryz.f61.body.getD .skip) Go.Proofs.Tryz.func61 rfl ck61 Go.Proofs.Tryz.call61 (.code (c := Go.Proofs.Tryz.f30.body.getD .skip) Go.Proofs.Tryz.func30 rfl ck30 Go.Proofs.Tryz.call30 (.code (c := Go.Proofs.Tryz.f69.body.getD .skip) Go.Proofs.Tryz.func69 rfl ck69 Go.Proofs.Tryz.call69 (.code (c := Go.Proofs.Tryz.f176.body.getD .skip) Go.Proofs.Tryz.func176 rfl ck176 Go.Proofs.Tryz.call176 (.code (c := Go.Proofs.Tryz.f158.body.getD .skip) Go.Proofs.Tryz.func158 rfl ck158 Go.Proofs.Tryz.call158 (.code (c := Go.Proofs.Tryz.f345.body.getD .skip) Go.Proofs.Tryz.func345 rfl ck345 Go.Proofs.Tryz.call345 (.code (c := Go.Proofs.Tryz.f249.body.getD .skip) Go.Proofs.Tryz.func249 rfl ck249 Go.Proofs.Tryz.call249 (.code (c := Go.Proofs.Tryz.f283.body.getD .skip) Go.Proofs.Tryz.func283 rfl ck283 Go.Proofs.Tryz.call283 (.code (c := Go.Proofs.Tryz.f321.body.getD .skip) Go.Proofs.Tryz.func321 rfl ck321 Go.Proofs.Tryz.call321 (.intr (.code (c := Go.Proofs.Tryz.f145.body.getD .skip) Go.Proofs.Tryz.func145 rfl ck145 Go.Proofs.Tryz.call145 (.code (c := Go.Proofs.Tryz.f254.body.getD .skip) Go.Proofs.Tryz.func254 rfl ck254 Go.Proofs.Tryz.call254 (.code (c := Go.Proofs.Tryz.f28.body.getD .skip) Go.Proofs.Tryz.func28 rfl ck28 Go.Proofs.Tryz.call28 (.code (c := Go.Proofs.Tryz.f97.body.getD .skip) Go.Proofs.Tryz.func97 rfl ck97 Go.Proofs.Tryz.call97 (.code (c := Go.Proofs.Tryz.f268.body.getD .skip) Go.Proofs.Tryz.func268 rfl ck268 Go.Proofs.Tryz.call268 (.code (c := Go.Proofs.Tryz.f342.body.getD .skip) Go.Proofs.Tryz.func342 rfl ck342 Go.Proofs.Tryz.call342 (.code (c := Go.Proofs.Tryz.f243.body.getD .skip) Go.Proofs.Tryz.func243 rfl ck243 Go.Proofs.Tryz.call243 (.code (c := Go.Proofs.Tryz.f365.body.getD .skip) Go.Proofs.Tryz.func365 rfl ck365 Go.Proofs.Tryz.call365 (.code (c := Go.Proofs.Tryz.f366.body.getD .skip) Go.Proofs.Tryz.func366 rfl ck366 Go.Proofs.Tryz.call366 (.code (c := Go.Proofs.Tryz.f255.body.getD .skip) Go.Proofs.Tryz.func255 rfl ck255 Go.Proofs.Tryz.call255 (.code (c := Go.Proofs.Tryz.f256.body.getD .skip) Go.Proofs.Tryz.func256 rfl ck256 Go.Proofs.Tryz.call256 (.code (c := Go.Proofs.Tryz.f156.body.getD .skip) Go.Proofs.Tryz.func156 rfl ck156 Go.Proofs.Tryz.call156 (.code (c := Go.Proofs.Tryz.f368.body.getD .skip) Go.Proofs.Tryz.func368 rfl ck368 Go.Proofs.Tryz.call368 (.code (c := Go.Proofs.Tryz.f367.body.getD .skip) Go.Proofs.Tryz.func367 rfl ck367 Go.Proofs.Tryz.call367 (.code (c := Go.Proofs.Tryz.f378.body.getD .skip) Go.Proofs.Tryz.func378 rfl ck378 Go.Proofs.Tryz.call378 (.code (c := Go.Proofs.Tryz.f284.body.getD .skip) Go.Proofs.Tryz.func284 rfl ck284 Go.Proofs.Tryz.call284 (.code (c := Go.Proofs.Tryz.f181.body.getD .skip) Go.Proofs.Tryz.func181 rfl ck181 Go.Proofs.Tryz.call181 (.intr (.intr (.intr (.code (c := Go.Proofs.Tryz.f442.body.getD .skip) Go.Proofs.Tryz.func442 rfl ck442 Go.Proofs.Tryz.call442 (.code (c := Go.Proofs.Tryz.f364.body.getD .skip) Go.Proofs.Tryz.func364 rfl ck364 Go.Proofs.Tryz.call364 (.code (c := Go.Proofs.Tryz.f379.body.getD .skip) Go.Proofs.Tryz.func379 rfl ck379 Go.Proofs.Tryz.call379 (.code (c := Go.Proofs.Tryz.f285.body.getD .skip) Go.Proofs.Tryz.func285 rfl ck285 Go.Proofs.Tryz.call285 (.code (c := Go.Proofs.Tryz.f286.body.getD .skip) Go.Proofs.Tryz.func286 rfl ck286 Go.Proofs.Tryz.call286 (.code (c := Go.Proofs.Tryz.f180.body.getD .skip) Go.Proofs.Tryz.func180 rfl ck180 Go.Proofs.Tryz.call180 (.intr (.code (c := Go.Proofs.Tryz.f269.body.getD .skip) Go.Proofs.Tryz.func269 rfl ck269 Go.Proofs.Tryz.call269 (.code (c := Go.Proofs.Tryz.f358.body.getD .skip) Go.Proofs.Tryz.func358 rfl ck358 Go.Proofs.Tryz.call358 (.code (c := Go.Proofs.Tryz.f282.body.getD .skip) Go.Proofs.Tryz.func282 rfl ck282 Go.Proofs.Tryz.call282 (.code (c := Go.Proofs.Tryz.f371.body.getD .skip) Go.Proofs.Tryz.func371 rfl ck371 Go.Proofs.Tryz.call371 (.code (c := Go.Proofs.Tryz.f272.body.getD .skip) Go.Proofs.Tryz.func272 rfl ck272 Go.Proofs.Tryz.call272 (.code (c := Go.Proofs.Tryz.f290.body.getD .skip) Go.Proofs.Tryz.func290 rfl ck290 Go.Proofs.Tryz.call290 (.code (c := Go.Proofs.Tryz.f291.body.getD .skip) Go.Proofs.Tryz.func291 rfl ck291 Go.Proofs.Tryz.call291 (.code (c := Go.Proofs.Tryz.f271.body.getD .skip) Go.Proofs.Tryz.func271 rfl ck271 Go.Proofs.Tryz.call271 (.code (c := Go.Proofs.Tryz.f169.body.getD .skip) Go.Proofs.Tryz.func169 rfl ck169 Go.Proofs.Tryz.call169 (.code (c := Go.Proofs.Tryz.f179.body.getD .skip) Go.Proofs.Tryz.func179 rfl ck179 Go.Proofs.Tryz.call179 (.intr (.code (c := Go.Proofs.Tryz.f373.body.getD .skip) Go.Proofs.Tryz.func373 rfl ck373 Go.Proofs.Tryz.call373 (.code (c := Go.Proofs.Tryz.f372.body.getD .skip) Go.Proofs.Tryz.func372 rfl ck372 Go.Proofs.Tryz.call372 (.code (c := Go.Proofs.Tryz.f273.body.getD .skip) Go.Proofs.Tryz.func273 rfl ck273 Go.Proofs.Tryz.call273 (.code (c := Go.Proofs.Tryz.f171.body.getD .skip) Go.Proofs.Tryz.func171 rfl ck171 Go.Proofs.Tryz.call171 (.code (c := Go.Proofs.Tryz.f423.body.getD .skip) Go.Proofs.Tryz.func423 rfl ck423 Go.Proofs.Tryz.call423 (.code (c := Go.Proofs.Tryz.f341.body.getD .skip) Go.Proofs.Tryz.func341 rfl ck341 Go.Proofs.Tryz.call341 (.code (c := Go.Proofs.Tryz.f236.body.getD .skip) Go.Proofs.Tryz.func236 rfl ck236 Go.Proofs.Tryz.call236 (.code (c := Go.Proofs.Tryz.f280.body.getD .skip) Go.Proofs.Tryz.func280 rfl ck280 Go.Proofs.Tryz.call280 (.code (c := Go.Proofs.Tryz.f420.body.getD .skip) Go.Proofs.Tryz.func420 rfl ck420 Go.Proofs.Tryz.call420 (.code (c := Go.Proofs.Tryz.f377.body.getD .skip) Go.Proofs.Tryz.func377 rfl ck377 Go.Proofs.Tryz.call377 (.code (c := Go.Proofs.Tryz.f281.body.getD .skip) Go.Proofs.Tryz.func281 rfl ck281 Go.Proofs.Tryz.call281 (.code (c := Go.Proofs.Tryz.f177.body.getD .skip) Go.Proofs.Tryz.func177 rfl ck177 Go.Proofs.Tryz.call177 (.code (c := Go.Proofs.Tryz.f305.body.getD .skip) Go.Proofs.Tryz.func305 rfl ck305 Go.Proofs.Tryz.call305 (.code (c := Go.Proofs.Tryz.f307.body.getD .skip) Go.Proofs.Tryz.func307 rfl ck307 Go.Proofs.Tryz.call307 (.code (c := Go.Proofs.Tryz.f194.body.getD .skip) Go.Proofs.Tryz.func194 rfl ck194 Go.Proofs.Tryz.call194 (.code (c := Go.Proofs.Tryz.f178.body.getD .skip) Go.Proofs.Tryz.func178 rfl ck178 Go.Proofs.Tryz.call178 (.code (c := Go.Proofs.Tryz.f102.body.getD .skip) Go.Proofs.Tryz.func102 rfl ck102 Go.Proofs.Tryz.call102 (.code (c := Go.Proofs.Tryz.f73.body.getD .skip) Go.Proofs.Tryz.func73 rfl ck73 Go.Proofs.Tryz.call73 (.code (c := Go.Proofs.Tryz.f44.body.getD .skip) Go.Proofs.Tryz.func44 rfl ck44 Go.Proofs.Tryz.call44 (.code (c := Go.Proofs.Tryz.f82.body.getD .skip) Go.Proofs.Tryz.func82 rfl ck82 Go.Proofs.Tryz.call82 (.code (c := Go.Proofs.Tryz.f75.body.getD .skip) Go.Proofs.Tryz.func75 rfl ck75 Go.Proofs.Tryz.call75 (.code (c := Go.Proofs.Tryz.f106.body.getD .skip) Go.Proofs.Tryz.func106 rfl ck106 Go.Proofs.Tryz.call106 (.code (c := Go.Proofs.Tryz.f76.body.getD .skip) Go.Proofs.Tryz.func76 rfl ck76 Go.Proofs.Tryz.call76 (.code (c := Go.Proofs.Tryz.f108.body.getD .skip) Go.Proofs.Tryz.func108 rfl ck108 Go.Proofs.Tryz.call108 (.code (c := Go.Proofs.Tryz.f114.body.getD .skip) Go.Proofs.Tryz.func114 rfl ck114 Go.Proofs.Tryz.call114 (.code (c := Go.Proofs.Tryz.f192.body.getD .skip) Go.Proofs.Tryz.func192 rfl ck192 Go.Proofs.Tryz.call192 (.code (c := Go.Proofs.Tryz.f380.body.getD .skip) Go.Proofs.Tryz.func380 rfl ck380 Go.Proofs.Tryz.call380 (.code (c := Go.Proofs.Tryz.f554.body.getD .skip) Go.Proofs.Tryz.func554 rfl ck554 Go.Proofs.Tryz.call554 (.code (c := Go.Proofs.Tryz.f111.body.getD .skip) Go.Proofs.Tryz.func111 rfl ck111 Go.Proofs.Tryz.call111 (.code (c := Go.Proofs.Tryz.f261.body.getD .skip) Go.Proofs.Tryz.func261 rfl ck261 Go.Proofs.Tryz.call261 (.code (c := Go.Proofs.Tryz.f292.body.getD .skip) Go.Proofs.Tryz.func292 rfl ck292 Go.Proofs.Tryz.call292 (.code (c := Go.Proofs.Tryz.f381.body.getD .skip) Go.Proofs.Tryz.func381 rfl ck381 Go.Proofs.Tryz.call381 (.code (c := Go.Proofs.Tryz.f293.body.getD .skip) Go.Proofs.Tryz.func293 rfl ck293 Go.Proofs.Tryz.call293 (.code (c := Go.Proofs.Tryz.f188.body.getD .skip) Go.Proofs.Tryz.func188 rfl ck188 Go.Proofs.Tryz.call188 (.code (c := Go.Proofs.Tryz.f553.body.getD .skip) Go.Proofs.Tryz.func553 rfl ck553 Go.Proofs.Tryz.call553 (.code (c := Go.Proofs.Tryz.f190.body.getD .skip) Go.Proofs.Tryz.func190 rfl ck190 Go.Proofs.Tryz.call190 (.code (c := Go.Proofs.Tryz.f250.body.getD .skip) Go.Proofs.Tryz.func250 rfl ck250 Go.Proofs.Tryz.call250 (.code (c := Go.Proofs.Tryz.f152.body.getD .skip) Go.Proofs.Tryz.func152 rfl ck152 Go.Proofs.Tryz.call152 (.code (c := Go.Proofs.Tryz.f153.body.getD .skip) Go.Proofs.Tryz.func153 rfl ck153 Go.Proofs.Tryz.call153 (.code (c := Go.Proofs.Tryz.f226.body.getD .skip) Go.Proofs.Tryz.func226 rfl ck226 Go.Proofs.Tryz.call226 (.code (c := Go.Proofs.Tryz.f136.body.getD .skip) Go.Proofs.Tryz.func136 rfl ck136 Go.Proofs.Tryz.call136 (.code (c := Go.Proofs.Tryz.f308.body.getD .skip) Go.Proofs.Tryz.func308 rfl ck308 Go.Proofs.Tryz.call308 (.code (c := Go.Proofs.Tryz.f195.body.getD .skip) Go.Proofs.Tryz.func195 rfl ck195 Go.Proofs.Tryz.call195 (.code (c := Go.Proofs.Tryz.f196.body.getD .skip) Go.Proofs.Tryz.func196 rfl ck196 Go.Proofs.Tryz.call196 (.code (c := Go.Proofs.Tryz.f197.body.getD .skip) Go.Proofs.Tryz.func197 rfl ck197 Go.Proofs.Tryz.call197 (.code (c := Go.Proofs.Tryz.f375.body.getD .skip) Go.Proofs.Tryz.func375 rfl ck375 Go.Proofs.Tryz.call375 (.code (c := Go.Proofs.Tryz.f448.body.getD .skip) Go.Proofs.Tryz.func448 rfl ck448 Go.Proofs.Tryz.call448 (.code (c := Go.Proofs.Tryz.f387.body.getD .skip) Go.Proofs.Tryz.func387 rfl ck387 Go.Proofs.Tryz.call387 (.code (c := Go.Proofs.Tryz.f295.body.getD .skip) Go.Proofs.Tryz.func295 rfl ck295 Go.Proofs.Tryz.call295 (.code (c := Go.Proofs.Tryz.f276.body.getD .skip) Go.Proofs.Tryz.func276 rfl ck276 Go.Proofs.Tryz.call276 (.code (c := Go.Proofs.Tryz.f389.body.getD .skip) Go.Proofs.Tryz.func389 rfl ck389 Go.Proofs.Tryz.call389 (.code (c := Go.Proofs.Tryz.f297.body.getD .skip) Go.Proofs.Tryz.func297 rfl ck297 Go.Proofs.Tryz.call297 (.code (c := Go.Proofs.Tryz.f298.body.getD .skip) Go.Proofs.Tryz.func298 rfl ck298 Go.Proofs.Tryz.call298 (.code (c := Go.Proofs.Tryz.f413.body.getD .skip) Go.Proofs.Tryz.func413 rfl ck413 Go.Proofs.Tryz.call413 (.code (c := Go.Proofs.Tryz.f324.body.getD .skip) Go.Proofs.Tryz.func324 rfl ck324 Go.Proofs.Tryz.call324 (.code (c := Go.Proofs.Tryz.f415.body.getD .skip) Go.Proofs.Tryz.func415 rfl ck415 Go.Proofs.Tryz.call415 (.code (c := Go.Proofs.Tryz.f416.body.getD .skip) Go.Proofs.Tryz.func416 rfl ck416 Go.Proofs.Tryz.call416 (.intr (.code (c := Go.Proofs.Tryz.f356.body.getD .skip) Go.Proofs.Tryz.func356 rfl ck356 Go.Proofs.Tryz.call356 (.code (c := Go.Proofs.Tryz.f252.body.getD .skip) Go.Proofs.Tryz.func252 rfl ck252 Go.Proofs.Tryz.call252 (.code (c := Go.Proofs.Tryz.f523.body.getD .skip) Go.Proofs.Tryz.func523 rfl ck523 Go.Proofs.Tryz.call523 (.code (c := Go.Proofs.Tryz.f513.body.getD .skip) Go.Proofs.Tryz.func513 rfl ck513 Go.Proofs.Tryz.call513 (.code (c := Go.Proofs.Tryz.f492.body.getD .skip) Go.Proofs.Tryz.func492 rfl ck492 Go.Proofs.Tryz.call492 (.code (c := Go.Proofs.Tryz.f466.body.getD .skip) Go.Proofs.Tryz.func466 rfl ck466 Go.Proofs.Tryz.call466 (.code (c := Go.Proofs.Tryz.f412.body.getD .skip) Go.Proofs.Tryz.func412 rfl ck412 Go.Proofs.Tryz.call412 (.code (c := Go.Proofs.Tryz.f323.body.getD .skip) Go.Proofs.Tryz.func323 rfl ck323 Go.Proofs.Tryz.call323 (.code (c := Go.Proofs.Tryz.f329.body.getD .skip) Go.Proofs.Tryz.func329 rfl ck329 Go.Proofs.Tryz.call329 (.code (c := Go.Proofs.Tryz.f414.body.getD .skip) Go.Proofs.Tryz.func414 rfl ck414 Go.Proofs.Tryz.call414 (.code (c := Go.Proofs.Tryz.f327.body.getD .skip) Go.Proofs.Tryz.func327 rfl ck327 Go.Proofs.Tryz.call327 (.code (c := Go.Proofs.Tryz.f328.body.getD .skip) Go.Proofs.Tryz.func328 rfl ck328 Go.Proofs.Tryz.call328 (.code (c := Go.Proofs.Tryz.f418.body.getD .skip) Go.Proofs.Tryz.func418 rfl ck418 Go.Proofs.Tryz.call418 (.code (c := Go.Proofs.Tryz.f419.body.getD .skip) Go.Proofs.Tryz.func419 rfl ck419 Go.Proofs.Tryz.call419 (.code (c := Go.Proofs.Tryz.f330.body.getD .skip) Go.Proofs.Tryz.func330 rfl ck330 Go.Proofs.Tryz.call330 (.code (c := Go.Proofs.Tryz.f331.body.getD .skip) Go.Proofs.Tryz.func331 rfl ck331 Go.Proofs.Tryz.call331 (.code (c := Go.Proofs.Tryz.f222.body.getD .skip) Go.Proofs.Tryz.func222 rfl ck222 Go.Proofs.Tryz.call222 (.code (c := Go.Proofs.Tryz.f359.body.getD .skip) Go.Proofs.Tryz.func359 rfl ck359 Go.Proofs.Tryz.call359 (.code (c := Go.Proofs.Tryz.f163.body.getD .skip) Go.Proofs.Tryz.func163 rfl ck163 Go.Proofs.Tryz.call163 (.code (c := Go.Proofs.Tryz.f253.body.getD .skip) Go.Proofs.Tryz.func253 rfl ck253 Go.Proofs.Tryz.call253 (.code (c := Go.Proofs.Tryz.f265.body.getD .skip) Go.Proofs.Tryz.func265 rfl ck265 Go.Proofs.Tryz.call265 (.code (c := Go.Proofs.Tryz.f436.body.getD .skip) Go.Proofs.Tryz.func436 rfl ck436 Go.Proofs.Tryz.call436 (.code (c := Go.Proofs.Tryz.f352.body.getD .skip) Go.Proofs.Tryz.func352 rfl ck352 Go.Proofs.Tryz.call352 (.code (c := Go.Proofs.Tryz.f456.body.getD .skip) Go.Proofs.Tryz.func456 rfl ck456 Go.Proofs.Tryz.call456 (.code (c := Go.Proofs.Tryz.f402.body.getD .skip) Go.Proofs.Tryz.func402 rfl ck402 Go.Proofs.Tryz.call402 (.code (c := Go.Proofs.Tryz.f455.body.getD .skip) Go.Proofs.Tryz.func455 rfl ck455 Go.Proofs.Tryz.call455 (.code (c := Go.Proofs.Tryz.f474.body.getD .skip) Go.Proofs.Tryz.func474 rfl ck474 Go.Proofs.Tryz.call474 (.code (c := Go.Proofs.Tryz.f437.body.getD .skip) Go.Proofs.Tryz.func437 rfl ck437 Go.Proofs.Tryz.call437 (.intr (.code (c := Go.Proofs.Tryz.f360.body.getD .skip) Go.Proofs.Tryz.func360 rfl ck360 Go.Proofs.Tryz.call360 (.code (c := Go.Proofs.Tryz.f260.body.getD .skip) Go.Proofs.Tryz.func260 rfl ck260 Go.Proofs.Tryz.call260 (.code (c := Go.Proofs.Tryz.f333.body.getD .skip) Go.Proofs.Tryz.func333 rfl ck333 Go.Proofs.Tryz.call333 (.code (c := Go.Proofs.Tryz.f334.body.getD .skip) Go.Proofs.Tryz.func334 rfl ck334 Go.Proofs.Tryz.call334 (.code (c := Go.Proofs.Tryz.f227.body.getD .skip) Go.Proofs.Tryz.func227 rfl ck227 Go.Proofs.Tryz.call227 (.code (c := Go.Proofs.Tryz.f300.body.getD .skip) Go.Proofs.Tryz.func300 rfl ck300 Go.Proofs.Tryz.call300 (.code (c := Go.Proofs.Tryz.f201.body.getD .skip) Go.Proofs.Tryz.func201 rfl ck201 Go.Proofs.Tryz.call201 (.code (c := Go.Proofs.Tryz.f395.body.getD .skip) Go.Proofs.Tryz.func395 rfl ck395 Go.Proofs.Tryz.call395 (.code (c := Go.Proofs.Tryz.f452.body.getD .skip) Go.Proofs.Tryz.func452 rfl ck452 Go.Proofs.Tryz.call452 (.code (c := Go.Proofs.Tryz.f397.body.getD .skip) Go.Proofs.Tryz.func397 rfl ck397 Go.Proofs.Tryz.call397 (.code (c := Go.Proofs.Tryz.f396.body.getD .skip) Go.Proofs.Tryz.func396 rfl ck396 Go.Proofs.Tryz.call396 (.code (c := Go.Proofs.Tryz.f309.body.getD .skip) Go.Proofs.Tryz.func309 rfl ck309 Go.Proofs.Tryz.call309 (.code (c := Go.Proofs.Tryz.f357.body.getD .skip) Go.Proofs.Tryz.func357 rfl ck357 Go.Proofs.Tryz.call357 (.code (c := Go.Proofs.Tryz.f311.body.getD .skip) Go.Proofs.Tryz.func311 rfl ck311 Go.Proofs.Tryz.call311 (.code (c := Go.Proofs.Tryz.f453.body.getD .skip) Go.Proofs.Tryz.func453 rfl ck453 Go.Proofs.Tryz.call453 (.code (c := Go.Proofs.Tryz.f398.body.getD .skip) Go.Proofs.Tryz.func398 rfl ck398 Go.Proofs.Tryz.call398 (.code (c := Go.Proofs.Tryz.f400.body.getD .skip) Go.Proofs.Tryz.func400 rfl ck400 Go.Proofs.Tryz.call400 (.intr (.code (c := Go.Proofs.Tryz.f336.body.getD .skip) Go.Proofs.Tryz.func336 rfl ck336 Go.Proofs.Tryz.call336 (.code (c := Go.Proofs.Tryz.f335.body.getD .skip) Go.Proofs.Tryz.func335 rfl ck335 Go.Proofs.Tryz.call335 (.code (c := Go.Proofs.Tryz.f302.body.getD .skip) Go.Proofs.Tryz.func302 rfl ck302 Go.Proofs.Tryz.call302 (.code (c := Go.Proofs.Tryz.f301.body.getD .skip) Go.Proofs.Tryz.func301 rfl ck301 Go.Proofs.Tryz.call301 (.code (c := Go.Proofs.Tryz.f191.body.getD .skip) Go.Proofs.Tryz.func191 rfl ck191 Go.Proofs.Tryz.call191 (.code (c := Go.Proofs.Tryz.f110.body.getD .skip) Go.Proofs.Tryz.func110 rfl ck110 Go.Proofs.Tryz.call110 (.code (c := Go.Proofs.Tryz.f77.body.getD .skip) Go.Proofs.Tryz.func77 rfl ck77 Go.Proofs.Tryz.call77 (.code (c := Go.Proofs.Tryz.f45.body.getD .skip) Go.Proofs.Tryz.func45 rfl ck45 Go.Proofs.Tryz.call45 (.code (c := Go.Proofs.Tryz.f49.body.getD .skip) Go.Proofs.Tryz.func49 rfl ck49 Go.Proofs.Tryz.call49 (.code (c := Go.Proofs.Tryz.f24.body.getD .skip) Go.Proofs.Tryz.func24 rfl ck24 Go.Proofs.Tryz.call24 (.code (c := Go.Proofs.Tryz.f146.body.getD .skip) Go.Proofs.Tryz.func146 rfl ck146 Go.Proofs.Tryz.call146 (.code (c := Go.Proofs.Tryz.f89.body.getD .skip) Go.Proofs.Tryz.func89 rfl ck89 Go.Proofs.Tryz.call89 (.code (c := Go.Proofs.Tryz.f68.body.getD .skip) Go.Proofs.Tryz.func68 rfl ck68 Go.Proofs.Tryz.call68 (.code (c := Go.Proofs.Tryz.f166.body.getD .skip) Go.Proofs.Tryz.func166 rfl ck166 Go.Proofs.Tryz.call166 (.code (c := Go.Proofs.Tryz.f242.body.getD .skip) Go.Proofs.Tryz.func242 rfl ck242 Go.Proofs.Tryz.call242 (.code (c := Go.Proofs.Tryz.f369.body.getD .skip) Go.Proofs.Tryz.func369 rfl ck369 Go.Proofs.Tryz.call369 (.code (c := Go.Proofs.Tryz.f267.body.getD .skip) Go.Proofs.Tryz.func267 rfl ck267 Go.Proofs.Tryz.call267 (.code (c := Go.Proofs.Tryz.f244.body.getD .skip) Go.Proofs.Tryz.func244 rfl ck244 Go.Proofs.Tryz.call244 (.code (c := Go.Proofs.Tryz.f245.body.getD .skip) Go.Proofs.Tryz.func245 rfl ck245 Go.Proofs.Tryz.call245 (.code (c := Go.Proofs.Tryz.f147.body.getD .skip) Go.Proofs.Tryz.func147 rfl ck147 Go.Proofs.Tryz.call147 (.code (c := Go.Proofs.Tryz.f246.body.getD .skip) Go.Proofs.Tryz.func246 rfl ck246 Go.Proofs.Tryz.call246 (.code (c := Go.Proofs.Tryz.f247.body.getD .skip) Go.Proofs.Tryz.func247 rfl ck247 Go.Proofs.Tryz.call247 (.code (c := Go.Proofs.Tryz.f287.body.getD .skip) Go.Proofs.Tryz.func287 rfl ck287 Go.Proofs.Tryz.call287 (.code (c := Go.Proofs.Tryz.f184.body.getD .skip) Go.Proofs.Tryz.func184 rfl ck184 Go.Proofs.Tryz.call184 (.code (c := Go.Proofs.Tryz.f424.body.getD .skip) Go.Proofs.Tryz.func424 rfl ck424 Go.Proofs.Tryz.call424 (.intr (.code (c := Go.Proofs.Tryz.f344.body.getD .skip) Go.Proofs.Tryz.func344 rfl ck344 Go.Proofs.Tryz.call344 (.code (c := Go.Proofs.Tryz.f343.body.getD .skip) Go.Proofs.Tryz.func343 rfl ck343 Go.Proofs.Tryz.call343 (.code (c := Go.Proofs.Tryz.f248.body.getD .skip) Go.Proofs.Tryz.func248 rfl ck248 Go.Proofs.Tryz.call248 (.code (c := Go.Proofs.Tryz.f148.body.getD .skip) Go.Proofs.Tryz.func148 rfl ck148 Go.Proofs.Tryz.call148 (.code (c := Go.Proofs.Tryz.f374.body.getD .skip) Go.Proofs.Tryz.func374 rfl ck374 Go.Proofs.Tryz.call374 (.code (c := Go.Proofs.Tryz.f289.body.getD .skip) Go.Proofs.Tryz.func289 rfl ck289 Go.Proofs.Tryz.call289 (.code (c := Go.Proofs.Tryz.f183.body.getD .skip) Go.Proofs.Tryz.func183 rfl ck183 Go.Proofs.Tryz.call183 (.code (c := Go.Proofs.Tryz.f185.body.getD .skip) Go.Proofs.Tryz.func185 rfl ck185 Go.Proofs.Tryz.call185 (.code (c := Go.Proofs.Tryz.f186.body.getD .skip) Go.Proofs.Tryz.func186 rfl ck186 Go.Proofs.Tryz.call186 (.code (c := Go.Proofs.Tryz.f150.body.getD .skip) Go.Proofs.Tryz.func150 rfl ck150 Go.Proofs.Tryz.call150 (.code (c := Go.Proofs.Tryz.f262.body.getD .skip) Go.Proofs.Tryz.func262 rfl ck262 Go.Proofs.Tryz.call262 (.code (c := Go.Proofs.Tryz.f161.body.getD .skip) Go.Proofs.Tryz.func161 rfl ck161 Go.Proofs.Tryz.call161 (.code (c := Go.Proofs.Tryz.f151.body.getD .skip) Go.Proofs.Tryz.func151 rfl ck151 Go.Proofs.Tryz.call151 (.code (c := Go.Proofs.Tryz.f346.body.getD .skip) Go.Proofs.Tryz.func346 rfl ck346 Go.Proofs.Tryz.call346 (.code (c := Go.Proofs.Tryz.f251.body.getD .skip) Go.Proofs.Tryz.func251 rfl ck251 Go.Proofs.Tryz.call251 (.code (c := Go.Proofs.Tryz.f154.body.getD .skip) Go.Proofs.Tryz.func154 rfl ck154 Go.Proofs.Tryz.call154 (.code (c := Go.Proofs.Tryz.f155.body.getD .skip) Go.Proofs.Tryz.func155 rfl ck155 Go.Proofs.Tryz.call155 (.code (c := Go.Proofs.Tryz.f90.body.getD .skip) Go.Proofs.Tryz.func90 rfl ck90 Go.Proofs.Tryz.call90 (.code (c := Go.Proofs.Tryz.f57.body.getD .skip) Go.Proofs.Tryz.func57 rfl ck57 Go.Proofs.Tryz.call57 (.code (c := Go.Proofs.Tryz.f58.body.getD .skip) Go.Proofs.Tryz.func58 rfl ck58 Go.Proofs.Tryz.call58 (.code (c := Go.Proofs.Tryz.f59.body.getD .skip) Go.Proofs.Tryz.func59 rfl ck59 Go.Proofs.Tryz.call59 (.code (c := Go.Proofs.Tryz.f25.body.getD .skip) Go.Proofs.Tryz.func25 rfl ck25 Go.Proofs.Tryz.call25 (.code (c := Go.Proofs.Tryz.f6.body.getD .skip) Go.Proofs.Tryz.func6 rfl ck6 Go.Proofs.Tryz.call6 (.code (c := Go.Proofs.Tryz.f9.body.getD .skip) Go.Proofs.Tryz.func9 rfl ck9 Go.Proofs.Tryz.call9 (.code (c := Go.Proofs.Tryz.f159.body.getD .skip) Go.Proofs.Tryz.func159 rfl ck159 Go.Proofs.Tryz.call159 (.code (c := Go.Proofs.Tryz.f160.body.getD .skip) Go.Proofs.Tryz.func160 rfl ck160 Go.Proofs.Tryz.call160 (.code (c := Go.Proofs.Tryz.f162.body.getD .skip) Go.Proofs.Tryz.func162 rfl ck162 Go.Proofs.Tryz.call162 (.code (c := Go.Proofs.Tryz.f440.body.getD .skip) Go.Proofs.Tryz.func440 rfl ck440 Go.Proofs.Tryz.call440 (.code (c := Go.Proofs.Tryz.f362.body.getD .skip) Go.Proofs.Tryz.func362 rfl ck362 Go.Proofs.Tryz.call362 (.code (c := Go.Proofs.Tryz.f441.body.getD .skip) Go.Proofs.Tryz.func441 rfl ck441 Go.Proofs.Tryz.call441 (.code (c := Go.Proofs.Tryz.f363.body.getD .skip) Go.Proofs.Tryz.func363 rfl ck363 Go.Proofs.Tryz.call363 (.code (c := Go.Proofs.Tryz.f264.body.getD .skip) Go.Proofs.Tryz.func264 rfl ck264 Go.Proofs.Tryz.call264 (.code (c := Go.Proofs.Tryz.f164.body.getD .skip) Go.Proofs.Tryz.func164 rfl ck164 Go.Proofs.Tryz.call164 (.intr (.code (c := Go.Proofs.Tryz.f266.body.getD .skip) Go.Proofs.Tryz.func266 rfl ck266 Go.Proofs.Tryz.call266 (.code (c := Go.Proofs.Tryz.f165.body.getD .skip) Go.Proofs.Tryz.func165 rfl ck165 Go.Proofs.Tryz.call165 (.code (c := Go.Proofs.Tryz.f167.body.getD .skip) Go.Proofs.Tryz.func167 rfl ck167 Go.Proofs.Tryz.call167 (.code (c := Go.Proofs.Tryz.f94.body.getD .skip) Go.Proofs.Tryz.func94 rfl ck94 Go.Proofs.Tryz.call94 (.code (c := Go.Proofs.Tryz.f92.body.getD .skip) Go.Proofs.Tryz.func92 rfl ck92 Go.Proofs.Tryz.call92 (.code (c := Go.Proofs.Tryz.f257.body.getD .skip) Go.Proofs.Tryz.func257 rfl ck257 Go.Proofs.Tryz.call257 (.code (c := Go.Proofs.Tryz.f258.body.getD .skip) Go.Proofs.Tryz.func258 rfl ck258 Go.Proofs.Tryz.call258 (.code (c := Go.Proofs.Tryz.f259.body.getD .skip) Go.Proofs.Tryz.func259 rfl ck259 Go.Proofs.Tryz.call259 (.code (c := Go.Proofs.Tryz.f157.body.getD .skip) Go.Proofs.Tryz.func157 rfl ck157 Go.Proofs.Tryz.call157 (.code (c := Go.Proofs.Tryz.f93.body.getD .skip) Go.Proofs.Tryz.func93 rfl ck93 Go.Proofs.Tryz.call93 (.code (c := Go.Proofs.Tryz.f95.body.getD .skip) Go.Proofs.Tryz.func95 rfl ck95 Go.Proofs.Tryz.call95 (.code (c := Go.Proofs.Tryz.f60.body.getD .skip) Go.Proofs.Tryz.func60 rfl ck60 Go.Proofs.Tryz.call60 (.code (c := Go.Proofs.Tryz.f27.body.getD .skip) Go.Proofs.Tryz.func27 rfl ck27 Go.Proofs.Tryz.call27 (.code (c := Go.Proofs.Tryz.f65.body.getD .skip) Go.Proofs.Tryz.func65 rfl ck65 Go.Proofs.Tryz.call65 (.code (c := Go.Proofs.Tryz.f66.body.getD .skip) Go.Proofs.Tryz.func66 rfl ck66 Go.Proofs.Tryz.call66 (.code (c := Go.Proofs.Tryz.f35.body.getD .skip) Go.Proofs.Tryz.func35 rfl ck35 Go.Proofs.Tryz.call35 (.code (c := Go.Proofs.Tryz.f18.body.getD .skip) Go.Proofs.Tryz.func18 rfl ck18 Go.Proofs.Tryz.call18 (.code (c := Go.Proofs.Tryz.f19.body.getD .skip) Go.Proofs.Tryz.func19 rfl ck19 Go.Proofs.Tryz.call19 (.code (c := Go.Proofs.Tryz.f36.body.getD .skip) Go.Proofs.Tryz.func36 rfl ck36 Go.Proofs.Tryz.call36 (.code (c := Go.Proofs.Tryz.f67.body.getD .skip) Go.Proofs.Tryz.func67 rfl ck67 Go.Proofs.Tryz.call67 (.code (c := Go.Proofs.Tryz.f37.body.getD .skip) Go.Proofs.Tryz.func37 rfl ck37 Go.Proofs.Tryz.call37 (.code (c := Go.Proofs.Tryz.f20.body.getD .skip) Go.Proofs.Tryz.func20 rfl ck20 Go.Proofs.Tryz.call20 (.code (c := Go.Proofs.Tryz.f38.body.getD .skip) Go.Proofs.Tryz.func38 rfl ck38 Go.Proofs.Tryz.call38 (.code (c := Go.Proofs.Tryz.f71.body.getD .skip) Go.Proofs.Tryz.func71 rfl ck71 Go.Proofs.Tryz.call71 (.code (c := Go.Proofs.Tryz.f70.body.getD .skip) Go.Proofs.Tryz.func70 rfl ck70 Go.Proofs.Tryz.call70 (.code (c := Go.Proofs.Tryz.f40.body.getD .skip) Go.Proofs.Tryz.func40 rfl ck40 Go.Proofs.Tryz.call40 (.code (c := Go.Proofs.Tryz.f41.body.getD .skip) Go.Proofs.Tryz.func41 rfl ck41 Go.Proofs.Tryz.call41 (.code (c := Go.Proofs.Tryz.f39.body.getD .skip) Go.Proofs.Tryz.func39 rfl ck39 Go.Proofs.Tryz.call39 (.code (c := Go.Proofs.Tryz.f21.body.getD .skip) Go.Proofs.Tryz.func21 rfl ck21 Go.Proofs.Tryz.call21 (.code (c := Go.Proofs.Tryz.f42.body.getD .skip) Go.Proofs.Tryz.func42 rfl ck42 Go.Proofs.Tryz.call42 (.code (c := Go.Proofs.Tryz.f22.body.getD .skip) Go.Proofs.Tryz.func22 rfl ck22 Go.Proofs.Tryz.call22 (.code (c := Go.Proofs.Tryz.f4.body.getD .skip) Go.Proofs.Tryz.func4 rfl ck4 Go.Proofs.Tryz.call4 (.nil)))))))))))))))))))))))))))))))))))))))))))))))))))))))))))))))))))))))))))))))))))))))))))))))))))))))))))))))))))))))))))))))))))))))))))))))))))))))))))))))))))))))))))))))))))))))))))))))))))))))))))))))))))))))))))))))))))))))))))))))))))))))))))))))))
theorem fnsOk : FnsOk Go.Proofs.Tryz.prog fns := fnsOk_of fnAll (by intro q hq; exact of_blt (l := fnl) (by kernel_rfl) q hq)
end Go.XS.Tryz
/- The contracts of a run. -/
namespace Go.XS.Tryz
open Go Go.TS
theorem ix144 : IxR1 iSectors (Go.TS.Tryz.c144 (sector_Disk_Sectors Go.TS.Tryz.tau)) := ⟨iSectors_ch, fun γ φ ags H h vs q K hx hR hv hK => iSectors_R (τ := Go.TS.Tryz.tau) (fun d h K hh => hh) γ φ ags H h vs q K hx hR hv hK⟩
theorem ix182 : IxR1 iRdWord (Go.TS.Tryz.c182 (octet_Reader_Word Go.TS.Tryz.tau)) := ⟨iRdWord_ch, fun γ φ ags H h vs q K hx hR hv hK => iRdWord_R (τ := Go.TS.Tryz.tau) (fun d m h K hh => hh) γ φ ags H h vs q K hx hR hv hK⟩
theorem ix263 : IxR1 iWord (Go.TS.Tryz.c263 (octet_Word Go.TS.Tryz.tau)) := ⟨iWord_ch, fun γ φ ags H h vs q K hx hR hv hK => iWord_R (τ := Go.TS.Tryz.tau) (fun s n m h K hh => hh) γ φ ags H h vs q K hx hR hv hK⟩
theorem ix477 : IxR1 iParts (Go.TS.Tryz.c477 (crc_Parts Go.TS.Tryz.tau)) := ⟨iParts_ch, fun γ φ ags H h vs q K hx hR hv hK => iParts_R (τ := Go.TS.Tryz.tau) (fun s h K hh => hh) γ φ ags H h vs q K hx hR hv hK⟩
theorem ix370 : IxR1 (iZeros 270) (Go.TS.Tryz.c370 (slices_IndexFunc_byte_byte Go.TS.Tryz.tau)) := ⟨iZeros_ch 270, fun γ φ ags H h vs q K hx hR hv hK => iZeros_R (τ := Go.TS.Tryz.tau) (fun s h K hh => hh) γ φ ags H h vs q K hx hR hv hK⟩
theorem ix338 : IxR1 iBRead (Go.TS.Tryz.c338 (bucket_Read Go.TS.Tryz.tau)) := ⟨iBRead_ch, fun γ φ ags H h vs q K hx hR hv hK => iBRead_R (τ := Go.TS.Tryz.tau) (fun s h K hh => hh) γ φ ags H h vs q K hx hR hv hK⟩
theorem ix465 : IxR1 iNoughts (Go.TS.Tryz.c465 (slots_noughts Go.TS.Tryz.tau)) := ⟨iNoughts_ch, fun γ φ ags H h vs q K hx hR hv hK => iNoughts_R (τ := Go.TS.Tryz.tau) (fun s h K hh => hh) γ φ ags H h vs q K hx hR hv hK⟩
theorem ix438 : IxR1 iInsert (Go.TS.Tryz.c438 (slices_Insert_int_int Go.TS.Tryz.tau)) := ⟨iInsert_ch, fun γ φ ags H h vs q K hx hR hv hK => iInsert_R (τ := Go.TS.Tryz.tau) (fun s x n h K hh => hh) γ φ ags H h vs q K hx hR hv hK⟩
theorem ix421 : IxR1 iInsertR (Go.TS.Tryz.c421 (slices_Insert_api_Ref_api_Ref Go.TS.Tryz.tau)) := ⟨iInsertR_ch, fun γ φ ags H h vs q K hx hR hv hK => iInsertR_R (τ := Go.TS.Tryz.tau) (fun s x n h K hh => hh) γ φ ags H h vs q K hx hR hv hK⟩
theorem ix425 : IxR1 iTrimR (Go.TS.Tryz.c425 (bytes_trimRightByte Go.TS.Tryz.tau)) := ⟨iTrimR_ch, fun γ φ ags H h vs q K hx hR hv hK => iTrimR_R (τ := Go.TS.Tryz.tau) (fun s n h K hh => hh) γ φ ags H h vs q K hx hR hv hK⟩
theorem ix168 : IxR1 iFlush (Go.TS.Tryz.c168 (sector_Disk_Flush Go.TS.Tryz.tau)) := ⟨iFlush_ch, fun γ φ ags H h vs q K hx hR hv hK => iFlush_R (τ := Go.TS.Tryz.tau) (fun d h K hh => hh) γ φ ags H h vs q K hx hR hv hK⟩
def ixl : List (Nat × CallP) := [(144, Go.TS.Tryz.c144 (sector_Disk_Sectors Go.TS.Tryz.tau)), (182, Go.TS.Tryz.c182 (octet_Reader_Word Go.TS.Tryz.tau)), (263, Go.TS.Tryz.c263 (octet_Word Go.TS.Tryz.tau)), (477, Go.TS.Tryz.c477 (crc_Parts Go.TS.Tryz.tau)), (370, Go.TS.Tryz.c370 (slices_IndexFunc_byte_byte Go.TS.Tryz.tau)), (338, Go.TS.Tryz.c338 (bucket_Read Go.TS.Tryz.tau)), (465, Go.TS.Tryz.c465 (slots_noughts Go.TS.Tryz.tau)), (438, Go.TS.Tryz.c438 (slices_Insert_int_int Go.TS.Tryz.tau)), (421, Go.TS.Tryz.c421 (slices_Insert_api_Ref_api_Ref Go.TS.Tryz.tau)), (425, Go.TS.Tryz.c425 (bytes_trimRightByte Go.TS.Tryz.tau)), (168, Go.TS.Tryz.c168 (sector_Disk_Flush Go.TS.Tryz.tau))]
theorem ixOk : IxOk Go.Proofs.Tryz.prog (ixGet ixl) := ixOk_of (.cons Go.TS.Tryz.s144 (.cons Go.TS.Tryz.s182 (.cons Go.TS.Tryz.s263 (.cons Go.TS.Tryz.s477 (.cons Go.TS.Tryz.s370 (.cons Go.TS.Tryz.s338 (.cons Go.TS.Tryz.s465 (.cons Go.TS.Tryz.s438 (.cons Go.TS.Tryz.s421 (.cons Go.TS.Tryz.s425 (.cons Go.TS.Tryz.s168 (.nil))))))))))))
set_option maxRecDepth 100000 in
theorem ixAll : IxAll (ixGet ixl) fnl := .code (.code (.code (.code (.code (.code (.code (.code (.code (.code (.code (.code (.code (.code (.code (.code (.code (.code (.code (.code (.code (.intr (p := Go.TS.Tryz.c144 (sector_Disk_Sectors Go.TS.Tryz.tau)) rfl ix144 (.code (.code (.code (.code (.code (.code (.code (.code (.code (.code (.code (.code (.code (.code (.code (.code (.code (.intr (p := Go.TS.Tryz.c182 (octet_Reader_Word Go.TS.Tryz.tau)) rfl ix182 (.intr (p := Go.TS.Tryz.c263 (octet_Word Go.TS.Tryz.tau)) rfl ix263 (.intr (p := Go.TS.Tryz.c477 (crc_Parts Go.TS.Tryz.tau)) rfl ix477 (.code (.code (.code (.code (.code (.code (.intr (p := Go.TS.Tryz.c370 (slices_IndexFunc_byte_byte Go.TS.Tryz.tau)) rfl ix370 (.code (.code (.code (.code (.code (.code (.code (.code (.code (.code (.intr (p := Go.TS.Tryz.c338 (bucket_Read Go.TS.Tryz.tau)) rfl ix338 (.code (.code (.code (.code (.code (.code (.code (.code (.code (.code (.code (.code (.code (.code (.code (.code (.code (.code (.code (.code (.code (.code (.code (.code (.code (.code (.code (.code (.code (.code (.code (.code (.code (.code (.code (.code (.code (.code (.code (.code (.code (.code (.code (.code (.code (.code (.code (.code (.code (.code (.code (.code (.code (.code (.code (.code (.code (.intr (p := Go.TS.Tryz.c465 (slots_noughts Go.TS.Tryz.tau)) rfl ix465 (.code (.code (.code (.code (.code (.code (.code (.code (.code (.code (.code (.code (.code (.code (.code (.code (.code (.code (.code (.code (.code (.code (.code (.code (.code (.code (.code (.code (.intr (p := Go.TS.Tryz.c438 (slices_Insert_int_int Go.TS.Tryz.tau)) rfl ix438 (.code (.code (.code (.code (.code (.code (.code (.code (.code (.code (.code (.code (.code (.code (.code (.code (.code (.intr (p := Go.TS.Tryz.c421 (slices_Insert_api_Ref_api_Ref Go.TS.Tryz.tau)) rfl ix421 (.code (.code (.code (.code (.code (.code (.code (.code (.code (.code (.code (.code (.code (.code (.code (.code (.code (.code (.code (.code (.code (.code (.code (.code (.code (.intr (p := Go.TS.Tryz.c425 (bytes_trimRightByte Go.TS.Tryz.tau)) rfl ix425 (.code (.code (.code (.code (.code (.code (.code (.code (.code (.code (.code (.code (.code (.code (.code (.code (.code (.code (.code (.code (.code (.code (.code (.code (.code (.code (.code (.code (.code (.code (.code (.code (.code (.intr (p := Go.TS.Tryz.c168 (sector_Disk_Flush Go.TS.Tryz.tau)) rfl ix168 (.code (.code (.code (.code (.code (.code (.code (.code (.code (.code (.code (.code (.code (.code (.code (.code (.code (.code (.code (.code (.code (.code (.code (.code (.code (.code (.code (.code (.code (.code (.code (.code (.nil)))))))))))))))))))))))))))))))))))))))))))))))))))))))))))))))))))))))))))))))))))))))))))))))))))))))))))))))))))))))))))))))))))))))))))))))))))))))))))))))))))))))))))))))))))))))))))))))))))))))))))))))))))))))))))))))))))))))))))))))))))))))))))))))))
theorem ixR : IxR fns (ixGet ixl) := ixR_of ixAll (by intro q hq; exact of_blt (l := fnl) (by kernel_rfl) q hq)
end Go.XS.Tryz
/- The tables of a run: facts of the types. -/
namespace Go.XS.Tryz
open Go Go.TS
set_option maxRecDepth 100000
theorem hm : Go.Proofs.Tryz.prog.follows .mixedOrders = true := by kernel_rfl
theorem ty3 : TyOk Go.Proofs.Tryz.prog 3 ti3 := ⟨Go.Proofs.Tryz.underlying3, by kernel_rfl, by kernel_rfl, trivial⟩
theorem ty4 : TyOk Go.Proofs.Tryz.prog 4 ti4 := ⟨Go.Proofs.Tryz.underlying4, by kernel_rfl, by kernel_rfl, trivial⟩
theorem ty5 : TyOk Go.Proofs.Tryz.prog 5 ti5 := ⟨Go.Proofs.Tryz.underlying5, by kernel_rfl, by kernel_rfl, trivial⟩
theorem ty9 : TyOk Go.Proofs.Tryz.prog 9 ti9 := ⟨Go.Proofs.Tryz.underlying9, by kernel_rfl, by kernel_rfl, trivial⟩
theorem ty22 : TyOk Go.Proofs.Tryz.prog 22 ti22 := ⟨Go.Proofs.Tryz.underlying22, by kernel_rfl, by kernel_rfl, trivial⟩
theorem ty23 : TyOk Go.Proofs.Tryz.prog 23 ti23 := ⟨Go.Proofs.Tryz.underlying23, by kernel_rfl, by kernel_rfl, trivial⟩
theorem ty24 : TyOk Go.Proofs.Tryz.prog 24 ti24 := ⟨Go.Proofs.Tryz.underlying24, by kernel_rfl, by kernel_rfl, trivial⟩
theorem ty29 : TyOk Go.Proofs.Tryz.prog 29 ti29 := ⟨Go.Proofs.Tryz.underlying29, by kernel_rfl, by kernel_rfl, trivial⟩
theorem ty33 : TyOk Go.Proofs.Tryz.prog 33 ti33 := ⟨Go.Proofs.Tryz.underlying33, by kernel_rfl, by kernel_rfl, trivial⟩
theorem ty34 : TyOk Go.Proofs.Tryz.prog 34 ti34 := ⟨Go.Proofs.Tryz.underlying34, by kernel_rfl, by kernel_rfl, trivial⟩
theorem ty35 : TyOk Go.Proofs.Tryz.prog 35 ti35 := ⟨Go.Proofs.Tryz.underlying35, by kernel_rfl, by kernel_rfl, trivial⟩
theorem ty37 : TyOk Go.Proofs.Tryz.prog 37 ti37 := ⟨Go.Proofs.Tryz.underlying37, by kernel_rfl, by kernel_rfl, ⟨by kernel_rfl, by kernel_rfl⟩⟩
theorem ty38 : TyOk Go.Proofs.Tryz.prog 38 ti38 := ⟨Go.Proofs.Tryz.underlying38, by kernel_rfl, by kernel_rfl, trivial⟩
theorem ty40 : TyOk Go.Proofs.Tryz.prog 40 ti40 := ⟨Go.Proofs.Tryz.underlying40, by kernel_rfl, by kernel_rfl, ⟨by kernel_rfl, by kernel_rfl⟩⟩
theorem ty44 : TyOk Go.Proofs.Tryz.prog 44 ti44 := ⟨Go.Proofs.Tryz.underlying44, by kernel_rfl, by kernel_rfl, trivial⟩
theorem ty45 : TyOk Go.Proofs.Tryz.prog 45 ti45 := ⟨Go.Proofs.Tryz.underlying45, by kernel_rfl, by kernel_rfl, trivial⟩
theorem ty47 : TyOk Go.Proofs.Tryz.prog 47 ti47 := ⟨Go.Proofs.Tryz.underlying47, by kernel_rfl, by kernel_rfl, trivial⟩
theorem ty52 : TyOk Go.Proofs.Tryz.prog 52 ti52 := ⟨Go.Proofs.Tryz.underlying52, by kernel_rfl, by kernel_rfl, trivial⟩
theorem ty54 : TyOk Go.Proofs.Tryz.prog 54 ti54 := ⟨Go.Proofs.Tryz.underlying54, by kernel_rfl, by kernel_rfl, ⟨by kernel_rfl, by kernel_rfl⟩⟩
theorem ty56 : TyOk Go.Proofs.Tryz.prog 56 ti56 := ⟨Go.Proofs.Tryz.underlying56, by kernel_rfl, by kernel_rfl, ⟨by kernel_rfl, by kernel_rfl⟩⟩
theorem ty58 : TyOk Go.Proofs.Tryz.prog 58 ti58 := ⟨Go.Proofs.Tryz.underlying58, by kernel_rfl, by kernel_rfl, ⟨by kernel_rfl, by kernel_rfl⟩⟩
theorem ty60 : TyOk Go.Proofs.Tryz.prog 60 ti60 := ⟨Go.Proofs.Tryz.underlying60, by kernel_rfl, by kernel_rfl, trivial⟩
theorem ty69 : TyOk Go.Proofs.Tryz.prog 69 ti69 := ⟨Go.Proofs.Tryz.underlying69, by kernel_rfl, by kernel_rfl, trivial⟩
theorem ty70 : TyOk Go.Proofs.Tryz.prog 70 ti70 := ⟨Go.Proofs.Tryz.underlying70, by kernel_rfl, by kernel_rfl, trivial⟩
theorem ty71 : TyOk Go.Proofs.Tryz.prog 71 ti71 := ⟨Go.Proofs.Tryz.underlying71, by kernel_rfl, by kernel_rfl, trivial⟩
theorem ty73 : TyOk Go.Proofs.Tryz.prog 73 ti73 := ⟨Go.Proofs.Tryz.underlying73, by kernel_rfl, by kernel_rfl, ⟨by kernel_rfl, by kernel_rfl⟩⟩
theorem ty75 : TyOk Go.Proofs.Tryz.prog 75 ti75 := ⟨Go.Proofs.Tryz.underlying75, by kernel_rfl, by kernel_rfl, trivial⟩
theorem ty77 : TyOk Go.Proofs.Tryz.prog 77 ti77 := ⟨Go.Proofs.Tryz.underlying77, by kernel_rfl, by kernel_rfl, ⟨by kernel_rfl, by kernel_rfl⟩⟩
theorem ty84 : TyOk Go.Proofs.Tryz.prog 84 ti84 := ⟨Go.Proofs.Tryz.underlying84, by kernel_rfl, by kernel_rfl, ⟨by kernel_rfl, by kernel_rfl⟩⟩
theorem ty90 : TyOk Go.Proofs.Tryz.prog 90 ti90 := ⟨Go.Proofs.Tryz.underlying90, by kernel_rfl, by kernel_rfl, trivial⟩
theorem ty92 : TyOk Go.Proofs.Tryz.prog 92 ti92 := ⟨Go.Proofs.Tryz.underlying92, by kernel_rfl, by kernel_rfl, trivial⟩
theorem ty96 : TyOk Go.Proofs.Tryz.prog 96 ti96 := ⟨Go.Proofs.Tryz.underlying96, by kernel_rfl, by kernel_rfl, trivial⟩
theorem ty99 : TyOk Go.Proofs.Tryz.prog 99 ti99 := ⟨Go.Proofs.Tryz.underlying99, by kernel_rfl, by kernel_rfl, trivial⟩
theorem ty101 : TyOk Go.Proofs.Tryz.prog 101 ti101 := ⟨Go.Proofs.Tryz.underlying101, by kernel_rfl, by kernel_rfl, ⟨by kernel_rfl, by kernel_rfl⟩⟩
theorem ty102 : TyOk Go.Proofs.Tryz.prog 102 ti102 := ⟨Go.Proofs.Tryz.underlying102, by kernel_rfl, by kernel_rfl, trivial⟩
theorem ty104 : TyOk Go.Proofs.Tryz.prog 104 ti104 := ⟨Go.Proofs.Tryz.underlying104, by kernel_rfl, by kernel_rfl, ⟨by kernel_rfl, by kernel_rfl⟩⟩
theorem ty106 : TyOk Go.Proofs.Tryz.prog 106 ti106 := ⟨Go.Proofs.Tryz.underlying106, by kernel_rfl, by kernel_rfl, ⟨by kernel_rfl, by kernel_rfl⟩⟩
theorem ty110 : TyOk Go.Proofs.Tryz.prog 110 ti110 := ⟨Go.Proofs.Tryz.underlying110, by kernel_rfl, by kernel_rfl, ⟨by kernel_rfl, by kernel_rfl⟩⟩
theorem ty111 : TyOk Go.Proofs.Tryz.prog 111 ti111 := ⟨Go.Proofs.Tryz.underlying111, by kernel_rfl, by kernel_rfl, trivial⟩
theorem ty115 : TyOk Go.Proofs.Tryz.prog 115 ti115 := ⟨Go.Proofs.Tryz.underlying115, by kernel_rfl, by kernel_rfl, ⟨by kernel_rfl, by kernel_rfl⟩⟩
theorem ty118 : TyOk Go.Proofs.Tryz.prog 118 ti118 := ⟨Go.Proofs.Tryz.underlying118, by kernel_rfl, by kernel_rfl, trivial⟩
theorem ty120 : TyOk Go.Proofs.Tryz.prog 120 ti120 := ⟨Go.Proofs.Tryz.underlying120, by kernel_rfl, by kernel_rfl, ⟨by kernel_rfl, by kernel_rfl⟩⟩
theorem ty123 : TyOk Go.Proofs.Tryz.prog 123 ti123 := ⟨Go.Proofs.Tryz.underlying123, by kernel_rfl, by kernel_rfl, ⟨by kernel_rfl, by kernel_rfl⟩⟩
theorem ty132 : TyOk Go.Proofs.Tryz.prog 132 ti132 := ⟨Go.Proofs.Tryz.underlying132, by kernel_rfl, by kernel_rfl, trivial⟩
theorem ty138 : TyOk Go.Proofs.Tryz.prog 138 ti138 := ⟨Go.Proofs.Tryz.underlying138, by kernel_rfl, by kernel_rfl, trivial⟩
theorem ty160 : TyOk Go.Proofs.Tryz.prog 160 ti160 := ⟨Go.Proofs.Tryz.underlying160, by kernel_rfl, by kernel_rfl, ⟨by kernel_rfl, by kernel_rfl⟩⟩
theorem ty162 : TyOk Go.Proofs.Tryz.prog 162 ti162 := ⟨Go.Proofs.Tryz.underlying162, by kernel_rfl, by kernel_rfl, ⟨by kernel_rfl, by kernel_rfl⟩⟩
theorem ty163 : TyOk Go.Proofs.Tryz.prog 163 ti163 := ⟨Go.Proofs.Tryz.underlying163, by kernel_rfl, by kernel_rfl, trivial⟩
theorem ty165 : TyOk Go.Proofs.Tryz.prog 165 ti165 := ⟨Go.Proofs.Tryz.underlying165, by kernel_rfl, by kernel_rfl, ⟨by kernel_rfl, by kernel_rfl⟩⟩
theorem ty170 : TyOk Go.Proofs.Tryz.prog 170 ti170 := ⟨Go.Proofs.Tryz.underlying170, by kernel_rfl, by kernel_rfl, trivial⟩
theorem ty174 : TyOk Go.Proofs.Tryz.prog 174 ti174 := ⟨Go.Proofs.Tryz.underlying174, by kernel_rfl, by kernel_rfl, ⟨by kernel_rfl, by kernel_rfl⟩⟩
theorem ty176 : TyOk Go.Proofs.Tryz.prog 176 ti176 := ⟨Go.Proofs.Tryz.underlying176, by kernel_rfl, by kernel_rfl, ⟨by kernel_rfl, by kernel_rfl⟩⟩
theorem ty178 : TyOk Go.Proofs.Tryz.prog 178 ti178 := ⟨Go.Proofs.Tryz.underlying178, by kernel_rfl, by kernel_rfl, ⟨by kernel_rfl, by kernel_rfl⟩⟩
theorem ty243 : TyOk Go.Proofs.Tryz.prog 243 ti243 := ⟨Go.Proofs.Tryz.underlying243, by kernel_rfl, by kernel_rfl, ⟨by kernel_rfl, by kernel_rfl⟩⟩
theorem ty253 : TyOk Go.Proofs.Tryz.prog 253 ti253 := ⟨Go.Proofs.Tryz.underlying253, by kernel_rfl, by kernel_rfl, trivial⟩
theorem ty257 : TyOk Go.Proofs.Tryz.prog 257 ti257 := ⟨Go.Proofs.Tryz.underlying257, by kernel_rfl, by kernel_rfl, trivial⟩
theorem ty264 : TyOk Go.Proofs.Tryz.prog 264 ti264 := ⟨Go.Proofs.Tryz.underlying264, by kernel_rfl, by kernel_rfl, ⟨by kernel_rfl, by kernel_rfl⟩⟩
theorem ty268 : TyOk Go.Proofs.Tryz.prog 268 ti268 := ⟨Go.Proofs.Tryz.underlying268, by kernel_rfl, by kernel_rfl, trivial⟩
theorem ty272 : TyOk Go.Proofs.Tryz.prog 272 ti272 := ⟨Go.Proofs.Tryz.underlying272, by kernel_rfl, by kernel_rfl, ⟨by kernel_rfl, by kernel_rfl⟩⟩
theorem ty277 : TyOk Go.Proofs.Tryz.prog 277 ti277 := ⟨Go.Proofs.Tryz.underlying277, by kernel_rfl, by kernel_rfl, trivial⟩
theorem ty281 : TyOk Go.Proofs.Tryz.prog 281 ti281 := ⟨Go.Proofs.Tryz.underlying281, by kernel_rfl, by kernel_rfl, trivial⟩
theorem ty283 : TyOk Go.Proofs.Tryz.prog 283 ti283 := ⟨Go.Proofs.Tryz.underlying283, by kernel_rfl, by kernel_rfl, ⟨by kernel_rfl, by kernel_rfl⟩⟩
theorem ty286 : TyOk Go.Proofs.Tryz.prog 286 ti286 := ⟨Go.Proofs.Tryz.underlying286, by kernel_rfl, by kernel_rfl, trivial⟩
theorem ty291 : TyOk Go.Proofs.Tryz.prog 291 ti291 := ⟨Go.Proofs.Tryz.underlying291, by kernel_rfl, by kernel_rfl, ⟨by kernel_rfl, by kernel_rfl⟩⟩
theorem ty298 : TyOk Go.Proofs.Tryz.prog 298 ti298 := ⟨Go.Proofs.Tryz.underlying298, by kernel_rfl, by kernel_rfl, trivial⟩
theorem ty300 : TyOk Go.Proofs.Tryz.prog 300 ti300 := ⟨Go.Proofs.Tryz.underlying300, by kernel_rfl, by kernel_rfl, ⟨by kernel_rfl, by kernel_rfl⟩⟩
theorem ty302 : TyOk Go.Proofs.Tryz.prog 302 ti302 := ⟨Go.Proofs.Tryz.underlying302, by kernel_rfl, by kernel_rfl, trivial⟩
theorem ty304 : TyOk Go.Proofs.Tryz.prog 304 ti304 := ⟨Go.Proofs.Tryz.underlying304, by kernel_rfl, by kernel_rfl, ⟨by kernel_rfl, by kernel_rfl⟩⟩
theorem ty309 : TyOk Go.Proofs.Tryz.prog 309 ti309 := ⟨Go.Proofs.Tryz.underlying309, by kernel_rfl, by kernel_rfl, trivial⟩
theorem ty311 : TyOk Go.Proofs.Tryz.prog 311 ti311 := ⟨Go.Proofs.Tryz.underlying311, by kernel_rfl, by kernel_rfl, ⟨by kernel_rfl, by kernel_rfl⟩⟩
theorem ty353 : TyOk Go.Proofs.Tryz.prog 353 ti353 := ⟨Go.Proofs.Tryz.underlying353, by kernel_rfl, by kernel_rfl, trivial⟩
theorem ty362 : TyOk Go.Proofs.Tryz.prog 362 ti362 := ⟨Go.Proofs.Tryz.underlying362, by kernel_rfl, by kernel_rfl, trivial⟩
theorem ty364 : TyOk Go.Proofs.Tryz.prog 364 ti364 := ⟨Go.Proofs.Tryz.underlying364, by kernel_rfl, by kernel_rfl, ⟨by kernel_rfl, by kernel_rfl⟩⟩
theorem ty366 : TyOk Go.Proofs.Tryz.prog 366 ti366 := ⟨Go.Proofs.Tryz.underlying366, by kernel_rfl, by kernel_rfl, trivial⟩
theorem ty367 : TyOk Go.Proofs.Tryz.prog 367 ti367 := ⟨Go.Proofs.Tryz.underlying367, by kernel_rfl, by kernel_rfl, trivial⟩
theorem ty373 : TyOk Go.Proofs.Tryz.prog 373 ti373 := ⟨Go.Proofs.Tryz.underlying373, by kernel_rfl, by kernel_rfl, trivial⟩
theorem ty380 : TyOk Go.Proofs.Tryz.prog 380 ti380 := ⟨Go.Proofs.Tryz.underlying380, by kernel_rfl, by kernel_rfl, ⟨by kernel_rfl, by kernel_rfl⟩⟩
theorem ty382 : TyOk Go.Proofs.Tryz.prog 382 ti382 := ⟨Go.Proofs.Tryz.underlying382, by kernel_rfl, by kernel_rfl, trivial⟩
theorem ty386 : TyOk Go.Proofs.Tryz.prog 386 ti386 := ⟨Go.Proofs.Tryz.underlying386, by kernel_rfl, by kernel_rfl, trivial⟩
theorem ty399 : TyOk Go.Proofs.Tryz.prog 399 ti399 := ⟨Go.Proofs.Tryz.underlying399, by kernel_rfl, by kernel_rfl, trivial⟩
theorem ty410 : TyOk Go.Proofs.Tryz.prog 410 ti410 := ⟨Go.Proofs.Tryz.underlying410, by kernel_rfl, by kernel_rfl, ⟨by kernel_rfl, by kernel_rfl⟩⟩
theorem ty420 : TyOk Go.Proofs.Tryz.prog 420 ti420 := ⟨Go.Proofs.Tryz.underlying420, by kernel_rfl, by kernel_rfl, ⟨by kernel_rfl, by kernel_rfl⟩⟩
theorem ty427 : TyOk Go.Proofs.Tryz.prog 427 ti427 := ⟨Go.Proofs.Tryz.underlying427, by kernel_rfl, by kernel_rfl, trivial⟩
theorem ty440 : TyOk Go.Proofs.Tryz.prog 440 ti440 := ⟨Go.Proofs.Tryz.underlying440, by kernel_rfl, by kernel_rfl, trivial⟩
theorem ty444 : TyOk Go.Proofs.Tryz.prog 444 ti444 := ⟨Go.Proofs.Tryz.underlying444, by kernel_rfl, by kernel_rfl, ⟨by kernel_rfl, by kernel_rfl⟩⟩
theorem ty457 : TyOk Go.Proofs.Tryz.prog 457 ti457 := ⟨Go.Proofs.Tryz.underlying457, by kernel_rfl, by kernel_rfl, ⟨by kernel_rfl, by kernel_rfl⟩⟩
theorem ty459 : TyOk Go.Proofs.Tryz.prog 459 ti459 := ⟨Go.Proofs.Tryz.underlying459, by kernel_rfl, by kernel_rfl, ⟨by kernel_rfl, by kernel_rfl⟩⟩
theorem ty462 : TyOk Go.Proofs.Tryz.prog 462 ti462 := ⟨Go.Proofs.Tryz.underlying462, by kernel_rfl, by kernel_rfl, trivial⟩
theorem ty463 : TyOk Go.Proofs.Tryz.prog 463 ti463 := ⟨Go.Proofs.Tryz.underlying463, by kernel_rfl, by kernel_rfl, ⟨by kernel_rfl, by kernel_rfl⟩⟩
theorem ty466 : TyOk Go.Proofs.Tryz.prog 466 ti466 := ⟨Go.Proofs.Tryz.underlying466, by kernel_rfl, by kernel_rfl, trivial⟩
theorem ty481 : TyOk Go.Proofs.Tryz.prog 481 ti481 := ⟨Go.Proofs.Tryz.underlying481, by kernel_rfl, by kernel_rfl, trivial⟩
theorem ty484 : TyOk Go.Proofs.Tryz.prog 484 ti484 := ⟨Go.Proofs.Tryz.underlying484, by kernel_rfl, by kernel_rfl, trivial⟩
theorem ty490 : TyOk Go.Proofs.Tryz.prog 490 ti490 := ⟨Go.Proofs.Tryz.underlying490, by kernel_rfl, by kernel_rfl, trivial⟩
theorem ty512 : TyOk Go.Proofs.Tryz.prog 512 ti512 := ⟨Go.Proofs.Tryz.underlying512, by kernel_rfl, by kernel_rfl, trivial⟩
theorem ty527 : TyOk Go.Proofs.Tryz.prog 527 ti527 := ⟨Go.Proofs.Tryz.underlying527, by kernel_rfl, by kernel_rfl, trivial⟩
theorem ty534 : TyOk Go.Proofs.Tryz.prog 534 ti534 := ⟨Go.Proofs.Tryz.underlying534, by kernel_rfl, by kernel_rfl, trivial⟩
theorem ty538 : TyOk Go.Proofs.Tryz.prog 538 ti538 := ⟨Go.Proofs.Tryz.underlying538, by kernel_rfl, by kernel_rfl, trivial⟩
theorem ty547 : TyOk Go.Proofs.Tryz.prog 547 ti547 := ⟨Go.Proofs.Tryz.underlying547, by kernel_rfl, by kernel_rfl, trivial⟩
theorem ty569 : TyOk Go.Proofs.Tryz.prog 569 ti569 := ⟨Go.Proofs.Tryz.underlying569, by kernel_rfl, by kernel_rfl, trivial⟩
theorem ty592 : TyOk Go.Proofs.Tryz.prog 592 ti592 := ⟨Go.Proofs.Tryz.underlying592, by kernel_rfl, by kernel_rfl, trivial⟩
theorem ty594 : TyOk Go.Proofs.Tryz.prog 594 ti594 := ⟨Go.Proofs.Tryz.underlying594, by kernel_rfl, by kernel_rfl, trivial⟩
theorem tysOk : TysOk Go.Proofs.Tryz.prog tys := tysOk_ofT (.cons ty3 (.cons ty4 (.cons ty5 (.cons ty9 (.cons ty22 (.cons ty23 (.cons ty24 (.cons ty29 (.cons ty33 (.cons ty34 (.cons ty35 (.cons ty37 (.cons ty38 (.cons ty40 (.cons ty44 (.cons ty45 (.cons ty47 (.cons ty52 (.cons ty54 (.cons ty56 (.cons ty58 (.cons ty60 (.cons ty69 (.cons ty70 (.cons ty71 (.cons ty73 (.cons ty75 (.cons ty77 (.cons ty84 (.cons ty90 (.cons ty92 (.cons ty96 (.cons ty99 (.cons ty101 (.cons ty102 (.cons ty104 (.cons ty106 (.cons ty110 (.cons ty111 (.cons ty115 (.cons ty118 (.cons ty120 (.cons ty123 (.cons ty132 (.cons ty138 (.cons ty160 (.cons ty162 (.cons ty163 (.cons ty165 (.cons ty170 (.cons ty174 (.cons ty176 (.cons ty178 (.cons ty243 (.cons ty253 (.cons ty257 (.cons ty264 (.cons ty268 (.cons ty272 (.cons ty277 (.cons ty281 (.cons ty283 (.cons ty286 (.cons ty291 (.cons ty298 (.cons ty300 (.cons ty302 (.cons ty304 (.cons ty309 (.cons ty311 (.cons ty353 (.cons ty362 (.cons ty364 (.cons ty366 (.cons ty367 (.cons ty373 (.cons ty380 (.cons ty382 (.cons ty386 (.cons ty399 (.cons ty410 (.cons ty420 (.cons ty427 (.cons ty440 (.cons ty444 (.cons ty457 (.cons ty459 (.cons ty462 (.cons ty463 (.cons ty466 (.cons ty481 (.cons ty484 (.cons ty490 (.cons ty512 (.cons ty527 (.cons ty534 (.cons ty538 (.cons ty547 (.cons ty569 (.cons ty592 (.cons ty594 (.nil)))))))))))))))))))))))))))))))))))))))))))))))))))))))))))))))))))))))))))))))))))))))))))))))))))))) (by kernel_rfl)
theorem tyAll : TyAllR tys tyl := .flat (by kernel_rfl) (by kernel_rfl) (.flat (by kernel_rfl) (by kernel_rfl) (.flat (by kernel_rfl) (by kernel_rfl) (.flat (by kernel_rfl) (by kernel_rfl) (.flat (by kernel_rfl) (by kernel_rfl) (.flat (by kernel_rfl) (by kernel_rfl) (.flat (by kernel_rfl) (by kernel_rfl) (.flat (by kernel_rfl) (by kernel_rfl) (.flat (by kernel_rfl) (by kernel_rfl) (.flat (by kernel_rfl) (by kernel_rfl) (.flat (by kernel_rfl) (by kernel_rfl) (.flat (by kernel_rfl) (by kernel_rfl) (.flat (by kernel_rfl) (by kernel_rfl) (.flat (by kernel_rfl) (by kernel_rfl) (.flat (by kernel_rfl) (by kernel_rfl) (.flat (by kernel_rfl) (by kernel_rfl) (.flat (by kernel_rfl) (by kernel_rfl) (.flat (by kernel_rfl) (by kernel_rfl) (.flat (by kernel_rfl) (by kernel_rfl) (.flat (by kernel_rfl) (by kernel_rfl) (.flat (by kernel_rfl) (by kernel_rfl) (.flat (by kernel_rfl) (by kernel_rfl) (.flat (by kernel_rfl) (by kernel_rfl) (.flat (by kernel_rfl) (by kernel_rfl) (.flat (by kernel_rfl) (by kernel_rfl) (.flat (by kernel_rfl) (by kernel_rfl) (.flat (by kernel_rfl) (by kernel_rfl) (.flat (by kernel_rfl) (by kernel_rfl) (.flat (by kernel_rfl) (by kernel_rfl) (.flat (by kernel_rfl) (by kernel_rfl) (.flat (by kernel_rfl) (by kernel_rfl) (.flat (by kernel_rfl) (by kernel_rfl) (.flat (by kernel_rfl) (by kernel_rfl) (.flat (by kernel_rfl) (by kernel_rfl) (.flat (by kernel_rfl) (by kernel_rfl) (.flat (by kernel_rfl) (by kernel_rfl) (.flat (by kernel_rfl) (by kernel_rfl) (.flat (by kernel_rfl) (by kernel_rfl) (.flat (by kernel_rfl) (by kernel_rfl) (.flat (by kernel_rfl) (by kernel_rfl) (.flat (by kernel_rfl) (by kernel_rfl) (.flat (by kernel_rfl) (by kernel_rfl) (.flat (by kernel_rfl) (by kernel_rfl) (.flat (by kernel_rfl) (by kernel_rfl) (.flat (by kernel_rfl) (by kernel_rfl) (.flat (by kernel_rfl) (by kernel_rfl) (.flat (by kernel_rfl) (by kernel_rfl) (.flat (by kernel_rfl) (by kernel_rfl) (.flat (by kernel_rfl) (by kernel_rfl) (.flat (by kernel_rfl) (by kernel_rfl) (.flat (by kernel_rfl) (by kernel_rfl) (.flat (by kernel_rfl) (by kernel_rfl) (.flat (by kernel_rfl) (by kernel_rfl) (.flat (by kernel_rfl) (by kernel_rfl) (.flat (by kernel_rfl) (by kernel_rfl) (.flat (by kernel_rfl) (by kernel_rfl) (.flat (by kernel_rfl) (by kernel_rfl) (.flat (by kernel_rfl) (by kernel_rfl) (.flat (by kernel_rfl) (by kernel_rfl) (.flat (by kernel_rfl) (by kernel_rfl) (.flat (by kernel_rfl) (by kernel_rfl) (.flat (by kernel_rfl) (by kernel_rfl) (.flat (by kernel_rfl) (by kernel_rfl) (.flat (by kernel_rfl) (by kernel_rfl) (.flat (by kernel_rfl) (by kernel_rfl) (.flat (by kernel_rfl) (by kernel_rfl) (.flat (by kernel_rfl) (by kernel_rfl) (.flat (by kernel_rfl) (by kernel_rfl) (.flat (by kernel_rfl) (by kernel_rfl) (.flat (by kernel_rfl) (by kernel_rfl) (.flat (by kernel_rfl) (by kernel_rfl) (.flat (by kernel_rfl) (by kernel_rfl) (.flat (by kernel_rfl) (by kernel_rfl) (.flat (by kernel_rfl) (by kernel_rfl) (.flat (by kernel_rfl) (by kernel_rfl) (.flat (by kernel_rfl) (by kernel_rfl) (.flat (by kernel_rfl) (by kernel_rfl) (.flat (by kernel_rfl) (by kernel_rfl) (.flat (by kernel_rfl) (by kernel_rfl) (.flat (by kernel_rfl) (by kernel_rfl) (.flat (by kernel_rfl) (by kernel_rfl) (.flat (by kernel_rfl) (by kernel_rfl) (.flat (by kernel_rfl) (by kernel_rfl) (.flat (by kernel_rfl) (by kernel_rfl) (.flat (by kernel_rfl) (by kernel_rfl) (.flat (by kernel_rfl) (by kernel_rfl) (.flat (by kernel_rfl) (by kernel_rfl) (.flat (by kernel_rfl) (by kernel_rfl) (.flat (by kernel_rfl) (by kernel_rfl) (.flat (by kernel_rfl) (by kernel_rfl) (.flat (by kernel_rfl) (by kernel_rfl) (.flat (by kernel_rfl) (by kernel_rfl) (.flat (by kernel_rfl) (by kernel_rfl) (.flat (by kernel_rfl) (by kernel_rfl) (.arr (te := ti5) rfl (by kernel_rfl) rfl rfl (by kernel_rfl) (.arr (te := ti4) rfl (by kernel_rfl) rfl rfl (by kernel_rfl) (.flat (by kernel_rfl) (by kernel_rfl) (.flat (by kernel_rfl) (by kernel_rfl) (.flat (by kernel_rfl) (by kernel_rfl) (.flat (by kernel_rfl) (by kernel_rfl) (.arr (te := ti281) rfl (by kernel_rfl) rfl rfl (by kernel_rfl) (.nil)))))))))))))))))))))))))))))))))))))))))))))))))))))))))))))))))))))))))))))))))))))))))))))))))))))
theorem tyR : TyR tys := tyR_of tyAll
end Go.XS.Tryz
/- Calls of a closed run: each call does what its run says. -/
namespace Go.XS.Tryz
open Go Go.TS
set_option maxRecDepth 100000
set_option linter.unusedVariables false
theorem wnm0_0R : RunOf Go.Proofs.Tryz.prog 60 wnm0_0 := run_of (c := Go.Proofs.Tryz.f60.body.getD .skip) (rs := Go.Proofs.Tryz.f60.results.toList) (k := Go.Proofs.Tryz.f60.ntmps) hm tysOk tyR fnsOk ixOk ixR (by kernel_rfl) (by kernel_rfl) (endM_fast wnm0_0r)
theorem wnm0_1R : RunOf Go.Proofs.Tryz.prog 60 wnm0_1 := run_of (c := Go.Proofs.Tryz.f60.body.getD .skip) (rs := Go.Proofs.Tryz.f60.results.toList) (k := Go.Proofs.Tryz.f60.ntmps) hm tysOk tyR fnsOk ixOk ixR (by kernel_rfl) (by kernel_rfl) (endM_fast wnm0_1r)
theorem wnall0 : ∀ m, m ∈ wnes0 → RunOf Go.Proofs.Tryz.prog 60 m := by
  intro m hm
  simp only [wnes0, List.mem_cons, List.not_mem_nil, or_false] at hm
  rcases hm with rfl | rfl
  · exact wnm0_0R
  · exact wnm0_1R
noncomputable def wnx1 : Nat → Option CallP := overI (ixGet ixl) 60 (pSem Go.Proofs.Tryz.prog 60)
theorem wnfOk1 : FnsOk Go.Proofs.Tryz.prog wnf1 := fnsOk.over 60 (iMemo wnes0)
theorem wnxOk1 : IxOk Go.Proofs.Tryz.prog wnx1 := ixOk.over (pSem_sound Go.Proofs.Tryz.call60)
theorem wnxR1 : IxR wnf1 wnx1 := ixR.over (iMemo_R1 wnall0)
theorem wnm1_0R : RunOf Go.Proofs.Tryz.prog 9 wnm1_0 := run_of (c := Go.Proofs.Tryz.f9.body.getD .skip) (rs := Go.Proofs.Tryz.f9.results.toList) (k := Go.Proofs.Tryz.f9.ntmps) hm tysOk tyR wnfOk1 wnxOk1 wnxR1 (by kernel_rfl) (by kernel_rfl) (endM_fast wnm1_0r)
theorem wnm1_1R : RunOf Go.Proofs.Tryz.prog 9 wnm1_1 := run_of (c := Go.Proofs.Tryz.f9.body.getD .skip) (rs := Go.Proofs.Tryz.f9.results.toList) (k := Go.Proofs.Tryz.f9.ntmps) hm tysOk tyR wnfOk1 wnxOk1 wnxR1 (by kernel_rfl) (by kernel_rfl) (endM_fast wnm1_1r)
theorem wnall1 : ∀ m, m ∈ wnes1 → RunOf Go.Proofs.Tryz.prog 9 m := by
  intro m hm
  simp only [wnes1, List.mem_cons, List.not_mem_nil, or_false] at hm
  rcases hm with rfl | rfl
  · exact wnm1_0R
  · exact wnm1_1R
noncomputable def wnx2 : Nat → Option CallP := overI wnx1 9 (pSem Go.Proofs.Tryz.prog 9)
theorem wnfOk2 : FnsOk Go.Proofs.Tryz.prog wnf2 := wnfOk1.over 9 (iMemo wnes1)
theorem wnxOk2 : IxOk Go.Proofs.Tryz.prog wnx2 := wnxOk1.over (pSem_sound Go.Proofs.Tryz.call9)
theorem wnxR2 : IxR wnf2 wnx2 := wnxR1.over (iMemo_R1 wnall1)
theorem wnm2_0R : RunOf Go.Proofs.Tryz.prog 20 wnm2_0 := run_of (c := Go.Proofs.Tryz.f20.body.getD .skip) (rs := Go.Proofs.Tryz.f20.results.toList) (k := Go.Proofs.Tryz.f20.ntmps) hm tysOk tyR wnfOk2 wnxOk2 wnxR2 (by kernel_rfl) (by kernel_rfl) (endM_fast wnm2_0r)
theorem wnall2 : ∀ m, m ∈ wnes2 → RunOf Go.Proofs.Tryz.prog 20 m := by
  intro m hm
  simp only [wnes2, List.mem_cons, List.not_mem_nil, or_false] at hm
  rcases hm with rfl
  exact wnm2_0R
noncomputable def wnx3 : Nat → Option CallP := overI wnx2 20 (pSem Go.Proofs.Tryz.prog 20)
theorem wnfOk3 : FnsOk Go.Proofs.Tryz.prog wnf3 := wnfOk2.over 20 (iMemo wnes2)
theorem wnxOk3 : IxOk Go.Proofs.Tryz.prog wnx3 := wnxOk2.over (pSem_sound Go.Proofs.Tryz.call20)
theorem wnxR3 : IxR wnf3 wnx3 := wnxR2.over (iMemo_R1 wnall2)
theorem wnm3_0R : RunOf Go.Proofs.Tryz.prog 4 wnm3_0 := run_of (c := Go.Proofs.Tryz.f4.body.getD .skip) (rs := Go.Proofs.Tryz.f4.results.toList) (k := Go.Proofs.Tryz.f4.ntmps) hm tysOk tyR wnfOk3 wnxOk3 wnxR3 (by kernel_rfl) (by kernel_rfl) (endM_fast wnm3_0r)
theorem wnall3 : ∀ m, m ∈ wnes3 → RunOf Go.Proofs.Tryz.prog 4 m := by
  intro m hm
  simp only [wnes3, List.mem_cons, List.not_mem_nil, or_false] at hm
  rcases hm with rfl
  exact wnm3_0R
noncomputable def wnx4 : Nat → Option CallP := overI wnx3 4 (pSem Go.Proofs.Tryz.prog 4)
theorem wnfOk4 : FnsOk Go.Proofs.Tryz.prog wnf4 := wnfOk3.over 4 (iMemo wnes3)
theorem wnxOk4 : IxOk Go.Proofs.Tryz.prog wnx4 := wnxOk3.over (pSem_sound Go.Proofs.Tryz.call4)
theorem wnxR4 : IxR wnf4 wnx4 := wnxR3.over (iMemo_R1 wnall3)
end Go.XS.Tryz
