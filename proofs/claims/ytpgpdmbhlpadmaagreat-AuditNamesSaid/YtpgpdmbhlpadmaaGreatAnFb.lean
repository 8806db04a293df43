/- The tables of a run: facts of the functions. -/
import Derived.Test.YtpgpdmbhlpadmaaGreatAnTa
import Derived.Test.YtpgpdmbhlpadmaaGreatTgL
import Derived.Test.YtpgpdmbhlpadmaaGreatXsClosed
import Derived.Test.YtpgpdmbhlpadmaaGreatXiIns
import Derived.Test.YtpgpdmbhlpadmaaGreatXiBase
import Derived.Test.YtpgpdmbhlpadmaaGreatXsTab
import Derived.Test.YtpgpdmbhlpadmaaGreatXsFastE
import Derived.Test.YtpgpdmbhlpadmaaGreatAnMr0
import Derived.Test.YtpgpdmbhlpadmaaGreatAnMr1
set_option linter.unusedSimpArgs false
set_option linter.unusedVariables false
namespace Go.XS.Tryz
open Go Go.TS
set_option maxRecDepth 100000
theorem ck105 : codeOk hn0 Go.Proofs.Tryz.f105.ntmps (Go.Proofs.Tryz.f105.body.getD .skip) = true := by kernel_rfl
theorem ck270 : codeOk hn0 Go.Proofs.Tryz.f270.ntmps (Go.Proofs.Tryz.f270.body.getD .skip) = true := by kernel_rfl
theorem ck172 : codeOk hn0 Go.Proofs.Tryz.f172.ntmps (Go.Proofs.Tryz.f172.body.getD .skip) = true := by kernel_rfl
theorem ck180 : codeOk hn0 Go.Proofs.Tryz.f180.ntmps (Go.Proofs.Tryz.f180.body.getD .skip) = true := by kernel_rfl
theorem ck290 : codeOk hn0 Go.Proofs.Tryz.f290.ntmps (Go.Proofs.Tryz.f290.body.getD .skip) = true := by kernel_rfl
theorem ck210 : codeOk hn0 Go.Proofs.Tryz.f210.ntmps (Go.Proofs.Tryz.f210.body.getD .skip) = true := by kernel_rfl
theorem ck186 : codeOk hn0 Go.Proofs.Tryz.f186.ntmps (Go.Proofs.Tryz.f186.body.getD .skip) = true := by kernel_rfl
theorem ck106 : codeOk hn0 Go.Proofs.Tryz.f106.ntmps (Go.Proofs.Tryz.f106.body.getD .skip) = true := by kernel_rfl
theorem ck48 : codeOk hn0 Go.Proofs.Tryz.f48.ntmps (Go.Proofs.Tryz.f48.body.getD .skip) = true := by kernel_rfl
theorem ck113 : codeOk hn0 Go.Proofs.Tryz.f113.ntmps (Go.Proofs.Tryz.f113.body.getD .skip) = true := by kernel_rfl
theorem ck73 : codeOk hn0 Go.Proofs.Tryz.f73.ntmps (Go.Proofs.Tryz.f73.body.getD .skip) = true := by kernel_rfl
theorem ck121 : codeOk hn0 Go.Proofs.Tryz.f121.ntmps (Go.Proofs.Tryz.f121.body.getD .skip) = true := by kernel_rfl
theorem ck122 : codeOk hn0 Go.Proofs.Tryz.f122.ntmps (Go.Proofs.Tryz.f122.body.getD .skip) = true := by kernel_rfl
theorem ck55 : codeOk hn0 Go.Proofs.Tryz.f55.ntmps (Go.Proofs.Tryz.f55.body.getD .skip) = true := by kernel_rfl
theorem ck231 : codeOk hn0 Go.Proofs.Tryz.f231.ntmps (Go.Proofs.Tryz.f231.body.getD .skip) = true := by kernel_rfl
theorem ck229 : codeOk hn0 Go.Proofs.Tryz.f229.ntmps (Go.Proofs.Tryz.f229.body.getD .skip) = true := by kernel_rfl
theorem ck98 : codeOk hn0 Go.Proofs.Tryz.f98.ntmps (Go.Proofs.Tryz.f98.body.getD .skip) = true := by kernel_rfl
theorem ck156 : codeOk hn0 Go.Proofs.Tryz.f156.ntmps (Go.Proofs.Tryz.f156.body.getD .skip) = true := by kernel_rfl
theorem ck230 : codeOk hn0 Go.Proofs.Tryz.f230.ntmps (Go.Proofs.Tryz.f230.body.getD .skip) = true := by kernel_rfl
theorem ck232 : codeOk hn0 Go.Proofs.Tryz.f232.ntmps (Go.Proofs.Tryz.f232.body.getD .skip) = true := by kernel_rfl
theorem ck233 : codeOk hn0 Go.Proofs.Tryz.f233.ntmps (Go.Proofs.Tryz.f233.body.getD .skip) = true := by kernel_rfl
theorem ck133 : codeOk hn0 Go.Proofs.Tryz.f133.ntmps (Go.Proofs.Tryz.f133.body.getD .skip) = true := by kernel_rfl
theorem ck60 : codeOk hn0 Go.Proofs.Tryz.f60.ntmps (Go.Proofs.Tryz.f60.body.getD .skip) = true := by kernel_rfl
theorem ck114 : codeOk hn0 Go.Proofs.Tryz.f114.ntmps (Go.Proofs.Tryz.f114.body.getD .skip) = true := by kernel_rfl
theorem ck115 : codeOk hn0 Go.Proofs.Tryz.f115.ntmps (Go.Proofs.Tryz.f115.body.getD .skip) = true := by kernel_rfl
theorem ck211 : codeOk hn0 Go.Proofs.Tryz.f211.ntmps (Go.Proofs.Tryz.f211.body.getD .skip) = true := by kernel_rfl
theorem ck291 : codeOk hn0 Go.Proofs.Tryz.f291.ntmps (Go.Proofs.Tryz.f291.body.getD .skip) = true := by kernel_rfl
theorem ck292 : codeOk hn0 Go.Proofs.Tryz.f292.ntmps (Go.Proofs.Tryz.f292.body.getD .skip) = true := by kernel_rfl
theorem ck218 : codeOk hn0 Go.Proofs.Tryz.f218.ntmps (Go.Proofs.Tryz.f218.body.getD .skip) = true := by kernel_rfl
theorem ck219 : codeOk hn0 Go.Proofs.Tryz.f219.ntmps (Go.Proofs.Tryz.f219.body.getD .skip) = true := by kernel_rfl
theorem ck282 : codeOk hn0 Go.Proofs.Tryz.f282.ntmps (Go.Proofs.Tryz.f282.body.getD .skip) = true := by kernel_rfl
theorem ck283 : codeOk hn0 Go.Proofs.Tryz.f283.ntmps (Go.Proofs.Tryz.f283.body.getD .skip) = true := by kernel_rfl
theorem ck220 : codeOk hn0 Go.Proofs.Tryz.f220.ntmps (Go.Proofs.Tryz.f220.body.getD .skip) = true := by kernel_rfl
theorem ck120 : codeOk hn0 Go.Proofs.Tryz.f120.ntmps (Go.Proofs.Tryz.f120.body.getD .skip) = true := by kernel_rfl
theorem ck339 : codeOk hn0 Go.Proofs.Tryz.f339.ntmps (Go.Proofs.Tryz.f339.body.getD .skip) = true := by kernel_rfl
theorem ck293 : codeOk hn0 Go.Proofs.Tryz.f293.ntmps (Go.Proofs.Tryz.f293.body.getD .skip) = true := by kernel_rfl
theorem ck284 : codeOk hn0 Go.Proofs.Tryz.f284.ntmps (Go.Proofs.Tryz.f284.body.getD .skip) = true := by kernel_rfl
theorem ck343 : codeOk hn0 Go.Proofs.Tryz.f343.ntmps (Go.Proofs.Tryz.f343.body.getD .skip) = true := by kernel_rfl
theorem ck294 : codeOk hn0 Go.Proofs.Tryz.f294.ntmps (Go.Proofs.Tryz.f294.body.getD .skip) = true := by kernel_rfl
theorem ck212 : codeOk hn0 Go.Proofs.Tryz.f212.ntmps (Go.Proofs.Tryz.f212.body.getD .skip) = true := by kernel_rfl
theorem ck116 : codeOk hn0 Go.Proofs.Tryz.f116.ntmps (Go.Proofs.Tryz.f116.body.getD .skip) = true := by kernel_rfl
theorem ck295 : codeOk hn0 Go.Proofs.Tryz.f295.ntmps (Go.Proofs.Tryz.f295.body.getD .skip) = true := by kernel_rfl
theorem ck214 : codeOk hn0 Go.Proofs.Tryz.f214.ntmps (Go.Proofs.Tryz.f214.body.getD .skip) = true := by kernel_rfl
theorem ck215 : codeOk hn0 Go.Proofs.Tryz.f215.ntmps (Go.Proofs.Tryz.f215.body.getD .skip) = true := by kernel_rfl
theorem ck117 : codeOk hn0 Go.Proofs.Tryz.f117.ntmps (Go.Proofs.Tryz.f117.body.getD .skip) = true := by kernel_rfl
theorem ck118 : codeOk hn0 Go.Proofs.Tryz.f118.ntmps (Go.Proofs.Tryz.f118.body.getD .skip) = true := by kernel_rfl
theorem ck51 : codeOk hn0 Go.Proofs.Tryz.f51.ntmps (Go.Proofs.Tryz.f51.body.getD .skip) = true := by kernel_rfl
theorem ck263 : codeOk hn0 Go.Proofs.Tryz.f263.ntmps (Go.Proofs.Tryz.f263.body.getD .skip) = true := by kernel_rfl
theorem ck264 : codeOk hn0 Go.Proofs.Tryz.f264.ntmps (Go.Proofs.Tryz.f264.body.getD .skip) = true := by kernel_rfl
theorem ck271 : codeOk hn0 Go.Proofs.Tryz.f271.ntmps (Go.Proofs.Tryz.f271.body.getD .skip) = true := by kernel_rfl
theorem ck245 : codeOk hn0 Go.Proofs.Tryz.f245.ntmps (Go.Proofs.Tryz.f245.body.getD .skip) = true := by kernel_rfl
theorem ck253 : codeOk hn0 Go.Proofs.Tryz.f253.ntmps (Go.Proofs.Tryz.f253.body.getD .skip) = true := by kernel_rfl
theorem ck244 : codeOk hn0 Go.Proofs.Tryz.f244.ntmps (Go.Proofs.Tryz.f244.body.getD .skip) = true := by kernel_rfl
theorem ck260 : codeOk hn0 Go.Proofs.Tryz.f260.ntmps (Go.Proofs.Tryz.f260.body.getD .skip) = true := by kernel_rfl
theorem ck261 : codeOk hn0 Go.Proofs.Tryz.f261.ntmps (Go.Proofs.Tryz.f261.body.getD .skip) = true := by kernel_rfl
theorem ck265 : codeOk hn0 Go.Proofs.Tryz.f265.ntmps (Go.Proofs.Tryz.f265.body.getD .skip) = true := by kernel_rfl
theorem ck165 : codeOk hn0 Go.Proofs.Tryz.f165.ntmps (Go.Proofs.Tryz.f165.body.getD .skip) = true := by kernel_rfl
theorem ck174 : codeOk hn0 Go.Proofs.Tryz.f174.ntmps (Go.Proofs.Tryz.f174.body.getD .skip) = true := by kernel_rfl
theorem ck318 : codeOk hn0 Go.Proofs.Tryz.f318.ntmps (Go.Proofs.Tryz.f318.body.getD .skip) = true := by kernel_rfl
theorem ck317 : codeOk hn0 Go.Proofs.Tryz.f317.ntmps (Go.Proofs.Tryz.f317.body.getD .skip) = true := by kernel_rfl
theorem ck266 : codeOk hn0 Go.Proofs.Tryz.f266.ntmps (Go.Proofs.Tryz.f266.body.getD .skip) = true := by kernel_rfl
theorem ck167 : codeOk hn0 Go.Proofs.Tryz.f167.ntmps (Go.Proofs.Tryz.f167.body.getD .skip) = true := by kernel_rfl
theorem ck319 : codeOk hn0 Go.Proofs.Tryz.f319.ntmps (Go.Proofs.Tryz.f319.body.getD .skip) = true := by kernel_rfl
theorem ck267 : codeOk hn0 Go.Proofs.Tryz.f267.ntmps (Go.Proofs.Tryz.f267.body.getD .skip) = true := by kernel_rfl
theorem ck168 : codeOk hn0 Go.Proofs.Tryz.f168.ntmps (Go.Proofs.Tryz.f168.body.getD .skip) = true := by kernel_rfl
theorem ck138 : codeOk hn0 Go.Proofs.Tryz.f138.ntmps (Go.Proofs.Tryz.f138.body.getD .skip) = true := by kernel_rfl
theorem ck239 : codeOk hn0 Go.Proofs.Tryz.f239.ntmps (Go.Proofs.Tryz.f239.body.getD .skip) = true := by kernel_rfl
theorem ck346 : codeOk hn0 Go.Proofs.Tryz.f346.ntmps (Go.Proofs.Tryz.f346.body.getD .skip) = true := by kernel_rfl
theorem ck366 : codeOk hn0 Go.Proofs.Tryz.f366.ntmps (Go.Proofs.Tryz.f366.body.getD .skip) = true := by kernel_rfl
theorem ck347 : codeOk hn0 Go.Proofs.Tryz.f347.ntmps (Go.Proofs.Tryz.f347.body.getD .skip) = true := by kernel_rfl
theorem ck345 : codeOk hn0 Go.Proofs.Tryz.f345.ntmps (Go.Proofs.Tryz.f345.body.getD .skip) = true := by kernel_rfl
theorem ck348 : codeOk hn0 Go.Proofs.Tryz.f348.ntmps (Go.Proofs.Tryz.f348.body.getD .skip) = true := by kernel_rfl
theorem ck301 : codeOk hn0 Go.Proofs.Tryz.f301.ntmps (Go.Proofs.Tryz.f301.body.getD .skip) = true := by kernel_rfl
theorem ck238 : codeOk hn0 Go.Proofs.Tryz.f238.ntmps (Go.Proofs.Tryz.f238.body.getD .skip) = true := by kernel_rfl
theorem ck221 : codeOk hn0 Go.Proofs.Tryz.f221.ntmps (Go.Proofs.Tryz.f221.body.getD .skip) = true := by kernel_rfl
theorem ck123 : codeOk hn0 Go.Proofs.Tryz.f123.ntmps (Go.Proofs.Tryz.f123.body.getD .skip) = true := by kernel_rfl
theorem ck126 : codeOk hn0 Go.Proofs.Tryz.f126.ntmps (Go.Proofs.Tryz.f126.body.getD .skip) = true := by kernel_rfl
theorem ck132 : codeOk hn0 Go.Proofs.Tryz.f132.ntmps (Go.Proofs.Tryz.f132.body.getD .skip) = true := by kernel_rfl
theorem ck256 : codeOk hn0 Go.Proofs.Tryz.f256.ntmps (Go.Proofs.Tryz.f256.body.getD .skip) = true := by kernel_rfl
theorem ck258 : codeOk hn0 Go.Proofs.Tryz.f258.ntmps (Go.Proofs.Tryz.f258.body.getD .skip) = true := by kernel_rfl
theorem ck159 : codeOk hn0 Go.Proofs.Tryz.f159.ntmps (Go.Proofs.Tryz.f159.body.getD .skip) = true := by kernel_rfl
theorem ck257 : codeOk hn0 Go.Proofs.Tryz.f257.ntmps (Go.Proofs.Tryz.f257.body.getD .skip) = true := by kernel_rfl
theorem ck157 : codeOk hn0 Go.Proofs.Tryz.f157.ntmps (Go.Proofs.Tryz.f157.body.getD .skip) = true := by kernel_rfl
theorem ck259 : codeOk hn0 Go.Proofs.Tryz.f259.ntmps (Go.Proofs.Tryz.f259.body.getD .skip) = true := by kernel_rfl
theorem ck158 : codeOk hn0 Go.Proofs.Tryz.f158.ntmps (Go.Proofs.Tryz.f158.body.getD .skip) = true := by kernel_rfl
theorem ck160 : codeOk hn0 Go.Proofs.Tryz.f160.ntmps (Go.Proofs.Tryz.f160.body.getD .skip) = true := by kernel_rfl
theorem ck79 : codeOk hn0 Go.Proofs.Tryz.f79.ntmps (Go.Proofs.Tryz.f79.body.getD .skip) = true := by kernel_rfl
theorem ck197 : codeOk hn0 Go.Proofs.Tryz.f197.ntmps (Go.Proofs.Tryz.f197.body.getD .skip) = true := by kernel_rfl
theorem ck95 : codeOk hn0 Go.Proofs.Tryz.f95.ntmps (Go.Proofs.Tryz.f95.body.getD .skip) = true := by kernel_rfl
theorem ck96 : codeOk hn0 Go.Proofs.Tryz.f96.ntmps (Go.Proofs.Tryz.f96.body.getD .skip) = true := by kernel_rfl
theorem ck199 : codeOk hn0 Go.Proofs.Tryz.f199.ntmps (Go.Proofs.Tryz.f199.body.getD .skip) = true := by kernel_rfl
theorem ck200 : codeOk hn0 Go.Proofs.Tryz.f200.ntmps (Go.Proofs.Tryz.f200.body.getD .skip) = true := by kernel_rfl
theorem ck331 : codeOk hn0 Go.Proofs.Tryz.f331.ntmps (Go.Proofs.Tryz.f331.body.getD .skip) = true := by kernel_rfl
theorem ck332 : codeOk hn0 Go.Proofs.Tryz.f332.ntmps (Go.Proofs.Tryz.f332.body.getD .skip) = true := by kernel_rfl
theorem ck273 : codeOk hn0 Go.Proofs.Tryz.f273.ntmps (Go.Proofs.Tryz.f273.body.getD .skip) = true := by kernel_rfl
theorem ck383 : codeOk hn0 Go.Proofs.Tryz.f383.ntmps (Go.Proofs.Tryz.f383.body.getD .skip) = true := by kernel_rfl
theorem ck395 : codeOk hn0 Go.Proofs.Tryz.f395.ntmps (Go.Proofs.Tryz.f395.body.getD .skip) = true := by kernel_rfl
theorem ck384 : codeOk hn0 Go.Proofs.Tryz.f384.ntmps (Go.Proofs.Tryz.f384.body.getD .skip) = true := by kernel_rfl
theorem ck356 : codeOk hn0 Go.Proofs.Tryz.f356.ntmps (Go.Proofs.Tryz.f356.body.getD .skip) = true := by kernel_rfl
theorem ck357 : codeOk hn0 Go.Proofs.Tryz.f357.ntmps (Go.Proofs.Tryz.f357.body.getD .skip) = true := by kernel_rfl
theorem ck385 : codeOk hn0 Go.Proofs.Tryz.f385.ntmps (Go.Proofs.Tryz.f385.body.getD .skip) = true := by kernel_rfl
theorem ck399 : codeOk hn0 Go.Proofs.Tryz.f399.ntmps (Go.Proofs.Tryz.f399.body.getD .skip) = true := by kernel_rfl
theorem ck397 : codeOk hn0 Go.Proofs.Tryz.f397.ntmps (Go.Proofs.Tryz.f397.body.getD .skip) = true := by kernel_rfl
theorem ck396 : codeOk hn0 Go.Proofs.Tryz.f396.ntmps (Go.Proofs.Tryz.f396.body.getD .skip) = true := by kernel_rfl
theorem ck386 : codeOk hn0 Go.Proofs.Tryz.f386.ntmps (Go.Proofs.Tryz.f386.body.getD .skip) = true := by kernel_rfl
theorem ck387 : codeOk hn0 Go.Proofs.Tryz.f387.ntmps (Go.Proofs.Tryz.f387.body.getD .skip) = true := by kernel_rfl
theorem ck388 : codeOk hn0 Go.Proofs.Tryz.f388.ntmps (Go.Proofs.Tryz.f388.body.getD .skip) = true := by kernel_rfl
theorem ck389 : codeOk hn0 Go.Proofs.Tryz.f389.ntmps (Go.Proofs.Tryz.f389.body.getD .skip) = true := by kernel_rfl
theorem ck390 : codeOk hn0 Go.Proofs.Tryz.f390.ntmps (Go.Proofs.Tryz.f390.body.getD .skip) = true := by kernel_rfl
theorem ck363 : codeOk hn0 Go.Proofs.Tryz.f363.ntmps (Go.Proofs.Tryz.f363.body.getD .skip) = true := by kernel_rfl
theorem ck341 : codeOk hn0 Go.Proofs.Tryz.f341.ntmps (Go.Proofs.Tryz.f341.body.getD .skip) = true := by kernel_rfl
theorem ck342 : codeOk hn0 Go.Proofs.Tryz.f342.ntmps (Go.Proofs.Tryz.f342.body.getD .skip) = true := by kernel_rfl
theorem ck288 : codeOk hn0 Go.Proofs.Tryz.f288.ntmps (Go.Proofs.Tryz.f288.body.getD .skip) = true := by kernel_rfl
theorem ck196 : codeOk hn0 Go.Proofs.Tryz.f196.ntmps (Go.Proofs.Tryz.f196.body.getD .skip) = true := by kernel_rfl
theorem ck94 : codeOk hn0 Go.Proofs.Tryz.f94.ntmps (Go.Proofs.Tryz.f94.body.getD .skip) = true := by kernel_rfl
theorem ck97 : codeOk hn0 Go.Proofs.Tryz.f97.ntmps (Go.Proofs.Tryz.f97.body.getD .skip) = true := by kernel_rfl
theorem ck44 : codeOk hn0 Go.Proofs.Tryz.f44.ntmps (Go.Proofs.Tryz.f44.body.getD .skip) = true := by kernel_rfl
theorem ck93 : codeOk hn0 Go.Proofs.Tryz.f93.ntmps (Go.Proofs.Tryz.f93.body.getD .skip) = true := by kernel_rfl
theorem ck205 : codeOk hn0 Go.Proofs.Tryz.f205.ntmps (Go.Proofs.Tryz.f205.body.getD .skip) = true := by kernel_rfl
theorem ck107 : codeOk hn0 Go.Proofs.Tryz.f107.ntmps (Go.Proofs.Tryz.f107.body.getD .skip) = true := by kernel_rfl
theorem ck124 : codeOk hn0 Go.Proofs.Tryz.f124.ntmps (Go.Proofs.Tryz.f124.body.getD .skip) = true := by kernel_rfl
theorem ck125 : codeOk hn0 Go.Proofs.Tryz.f125.ntmps (Go.Proofs.Tryz.f125.body.getD .skip) = true := by kernel_rfl
theorem ck56 : codeOk hn0 Go.Proofs.Tryz.f56.ntmps (Go.Proofs.Tryz.f56.body.getD .skip) = true := by kernel_rfl
theorem ck223 : codeOk hn0 Go.Proofs.Tryz.f223.ntmps (Go.Proofs.Tryz.f223.body.getD .skip) = true := by kernel_rfl
theorem ck222 : codeOk hn0 Go.Proofs.Tryz.f222.ntmps (Go.Proofs.Tryz.f222.body.getD .skip) = true := by kernel_rfl
theorem ck127 : codeOk hn0 Go.Proofs.Tryz.f127.ntmps (Go.Proofs.Tryz.f127.body.getD .skip) = true := by kernel_rfl
theorem ck57 : codeOk hn0 Go.Proofs.Tryz.f57.ntmps (Go.Proofs.Tryz.f57.body.getD .skip) = true := by kernel_rfl
theorem ck178 : codeOk hn0 Go.Proofs.Tryz.f178.ntmps (Go.Proofs.Tryz.f178.body.getD .skip) = true := by kernel_rfl
theorem ck185 : codeOk hn0 Go.Proofs.Tryz.f185.ntmps (Go.Proofs.Tryz.f185.body.getD .skip) = true := by kernel_rfl
theorem ck209 : codeOk hn0 Go.Proofs.Tryz.f209.ntmps (Go.Proofs.Tryz.f209.body.getD .skip) = true := by kernel_rfl
theorem ck297 : codeOk hn0 Go.Proofs.Tryz.f297.ntmps (Go.Proofs.Tryz.f297.body.getD .skip) = true := by kernel_rfl
theorem ck298 : codeOk hn0 Go.Proofs.Tryz.f298.ntmps (Go.Proofs.Tryz.f298.body.getD .skip) = true := by kernel_rfl
theorem ck225 : codeOk hn0 Go.Proofs.Tryz.f225.ntmps (Go.Proofs.Tryz.f225.body.getD .skip) = true := by kernel_rfl
theorem ck274 : codeOk hn0 Go.Proofs.Tryz.f274.ntmps (Go.Proofs.Tryz.f274.body.getD .skip) = true := by kernel_rfl
theorem ck296 : codeOk hn0 Go.Proofs.Tryz.f296.ntmps (Go.Proofs.Tryz.f296.body.getD .skip) = true := by kernel_rfl
theorem ck333 : codeOk hn0 Go.Proofs.Tryz.f333.ntmps (Go.Proofs.Tryz.f333.body.getD .skip) = true := by kernel_rfl
theorem ck275 : codeOk hn0 Go.Proofs.Tryz.f275.ntmps (Go.Proofs.Tryz.f275.body.getD .skip) = true := by kernel_rfl
theorem ck179 : codeOk hn0 Go.Proofs.Tryz.f179.ntmps (Go.Proofs.Tryz.f179.body.getD .skip) = true := by kernel_rfl
theorem ck86 : codeOk hn0 Go.Proofs.Tryz.f86.ntmps (Go.Proofs.Tryz.f86.body.getD .skip) = true := by kernel_rfl
theorem ck224 : codeOk hn0 Go.Proofs.Tryz.f224.ntmps (Go.Proofs.Tryz.f224.body.getD .skip) = true := by kernel_rfl
theorem ck227 : codeOk hn0 Go.Proofs.Tryz.f227.ntmps (Go.Proofs.Tryz.f227.body.getD .skip) = true := by kernel_rfl
theorem ck129 : codeOk hn0 Go.Proofs.Tryz.f129.ntmps (Go.Proofs.Tryz.f129.body.getD .skip) = true := by kernel_rfl
theorem ck128 : codeOk hn0 Go.Proofs.Tryz.f128.ntmps (Go.Proofs.Tryz.f128.body.getD .skip) = true := by kernel_rfl
theorem ck58 : codeOk hn0 Go.Proofs.Tryz.f58.ntmps (Go.Proofs.Tryz.f58.body.getD .skip) = true := by kernel_rfl
theorem ck131 : codeOk hn0 Go.Proofs.Tryz.f131.ntmps (Go.Proofs.Tryz.f131.body.getD .skip) = true := by kernel_rfl
theorem ck59 : codeOk hn0 Go.Proofs.Tryz.f59.ntmps (Go.Proofs.Tryz.f59.body.getD .skip) = true := by kernel_rfl
theorem ck61 : codeOk hn0 Go.Proofs.Tryz.f61.ntmps (Go.Proofs.Tryz.f61.body.getD .skip) = true := by kernel_rfl
theorem ck62 : codeOk hn0 Go.Proofs.Tryz.f62.ntmps (Go.Proofs.Tryz.f62.body.getD .skip) = true := by kernel_rfl
theorem ck63 : codeOk hn0 Go.Proofs.Tryz.f63.ntmps (Go.Proofs.Tryz.f63.body.getD .skip) = true := by kernel_rfl
theorem ck101 : codeOk hn0 Go.Proofs.Tryz.f101.ntmps (Go.Proofs.Tryz.f101.body.getD .skip) = true := by kernel_rfl
theorem ck198 : codeOk hn0 Go.Proofs.Tryz.f198.ntmps (Go.Proofs.Tryz.f198.body.getD .skip) = true := by kernel_rfl
theorem ck99 : codeOk hn0 Go.Proofs.Tryz.f99.ntmps (Go.Proofs.Tryz.f99.body.getD .skip) = true := by kernel_rfl
theorem ck45 : codeOk hn0 Go.Proofs.Tryz.f45.ntmps (Go.Proofs.Tryz.f45.body.getD .skip) = true := by kernel_rfl
theorem ck100 : codeOk hn0 Go.Proofs.Tryz.f100.ntmps (Go.Proofs.Tryz.f100.body.getD .skip) = true := by kernel_rfl
theorem ck202 : codeOk hn0 Go.Proofs.Tryz.f202.ntmps (Go.Proofs.Tryz.f202.body.getD .skip) = true := by kernel_rfl
theorem ck203 : codeOk hn0 Go.Proofs.Tryz.f203.ntmps (Go.Proofs.Tryz.f203.body.getD .skip) = true := by kernel_rfl
theorem ck201 : codeOk hn0 Go.Proofs.Tryz.f201.ntmps (Go.Proofs.Tryz.f201.body.getD .skip) = true := by kernel_rfl
theorem ck102 : codeOk hn0 Go.Proofs.Tryz.f102.ntmps (Go.Proofs.Tryz.f102.body.getD .skip) = true := by kernel_rfl
theorem ck103 : codeOk hn0 Go.Proofs.Tryz.f103.ntmps (Go.Proofs.Tryz.f103.body.getD .skip) = true := by kernel_rfl
theorem ck46 : codeOk hn0 Go.Proofs.Tryz.f46.ntmps (Go.Proofs.Tryz.f46.body.getD .skip) = true := by kernel_rfl
theorem ck206 : codeOk hn0 Go.Proofs.Tryz.f206.ntmps (Go.Proofs.Tryz.f206.body.getD .skip) = true := by kernel_rfl
theorem ck207 : codeOk hn0 Go.Proofs.Tryz.f207.ntmps (Go.Proofs.Tryz.f207.body.getD .skip) = true := by kernel_rfl
theorem ck108 : codeOk hn0 Go.Proofs.Tryz.f108.ntmps (Go.Proofs.Tryz.f108.body.getD .skip) = true := by kernel_rfl
theorem ck66 : codeOk hn0 Go.Proofs.Tryz.f66.ntmps (Go.Proofs.Tryz.f66.body.getD .skip) = true := by kernel_rfl
theorem ck42 : codeOk hn0 Go.Proofs.Tryz.f42.ntmps (Go.Proofs.Tryz.f42.body.getD .skip) = true := by kernel_rfl
theorem ck289 : codeOk hn0 Go.Proofs.Tryz.f289.ntmps (Go.Proofs.Tryz.f289.body.getD .skip) = true := by kernel_rfl
theorem ck208 : codeOk hn0 Go.Proofs.Tryz.f208.ntmps (Go.Proofs.Tryz.f208.body.getD .skip) = true := by kernel_rfl
theorem ck111 : codeOk hn0 Go.Proofs.Tryz.f111.ntmps (Go.Proofs.Tryz.f111.body.getD .skip) = true := by kernel_rfl
theorem ck70 : codeOk hn0 Go.Proofs.Tryz.f70.ntmps (Go.Proofs.Tryz.f70.body.getD .skip) = true := by kernel_rfl
theorem ck234 : codeOk hn0 Go.Proofs.Tryz.f234.ntmps (Go.Proofs.Tryz.f234.body.getD .skip) = true := by kernel_rfl
theorem ck134 : codeOk hn0 Go.Proofs.Tryz.f134.ntmps (Go.Proofs.Tryz.f134.body.getD .skip) = true := by kernel_rfl
theorem ck69 : codeOk hn0 Go.Proofs.Tryz.f69.ntmps (Go.Proofs.Tryz.f69.body.getD .skip) = true := by kernel_rfl
theorem ck302 : codeOk hn0 Go.Proofs.Tryz.f302.ntmps (Go.Proofs.Tryz.f302.body.getD .skip) = true := by kernel_rfl
theorem ck303 : codeOk hn0 Go.Proofs.Tryz.f303.ntmps (Go.Proofs.Tryz.f303.body.getD .skip) = true := by kernel_rfl
theorem ck240 : codeOk hn0 Go.Proofs.Tryz.f240.ntmps (Go.Proofs.Tryz.f240.body.getD .skip) = true := by kernel_rfl
theorem ck242 : codeOk hn0 Go.Proofs.Tryz.f242.ntmps (Go.Proofs.Tryz.f242.body.getD .skip) = true := by kernel_rfl
theorem ck140 : codeOk hn0 Go.Proofs.Tryz.f140.ntmps (Go.Proofs.Tryz.f140.body.getD .skip) = true := by kernel_rfl
theorem ck137 : codeOk hn0 Go.Proofs.Tryz.f137.ntmps (Go.Proofs.Tryz.f137.body.getD .skip) = true := by kernel_rfl
theorem ck235 : codeOk hn0 Go.Proofs.Tryz.f235.ntmps (Go.Proofs.Tryz.f235.body.getD .skip) = true := by kernel_rfl
theorem ck300 : codeOk hn0 Go.Proofs.Tryz.f300.ntmps (Go.Proofs.Tryz.f300.body.getD .skip) = true := by kernel_rfl
theorem ck237 : codeOk hn0 Go.Proofs.Tryz.f237.ntmps (Go.Proofs.Tryz.f237.body.getD .skip) = true := by kernel_rfl
theorem ck236 : codeOk hn0 Go.Proofs.Tryz.f236.ntmps (Go.Proofs.Tryz.f236.body.getD .skip) = true := by kernel_rfl
theorem ck139 : codeOk hn0 Go.Proofs.Tryz.f139.ntmps (Go.Proofs.Tryz.f139.body.getD .skip) = true := by kernel_rfl
theorem ck243 : codeOk hn0 Go.Proofs.Tryz.f243.ntmps (Go.Proofs.Tryz.f243.body.getD .skip) = true := by kernel_rfl
theorem ck141 : codeOk hn0 Go.Proofs.Tryz.f141.ntmps (Go.Proofs.Tryz.f141.body.getD .skip) = true := by kernel_rfl
theorem ck145 : codeOk hn0 Go.Proofs.Tryz.f145.ntmps (Go.Proofs.Tryz.f145.body.getD .skip) = true := by kernel_rfl
theorem ck109 : codeOk hn0 Go.Proofs.Tryz.f109.ntmps (Go.Proofs.Tryz.f109.body.getD .skip) = true := by kernel_rfl
theorem ck135 : codeOk hn0 Go.Proofs.Tryz.f135.ntmps (Go.Proofs.Tryz.f135.body.getD .skip) = true := by kernel_rfl
theorem ck64 : codeOk hn0 Go.Proofs.Tryz.f64.ntmps (Go.Proofs.Tryz.f64.body.getD .skip) = true := by kernel_rfl
theorem ck150 : codeOk hn0 Go.Proofs.Tryz.f150.ntmps (Go.Proofs.Tryz.f150.body.getD .skip) = true := by kernel_rfl
theorem ck136 : codeOk hn0 Go.Proofs.Tryz.f136.ntmps (Go.Proofs.Tryz.f136.body.getD .skip) = true := by kernel_rfl
theorem ck65 : codeOk hn0 Go.Proofs.Tryz.f65.ntmps (Go.Proofs.Tryz.f65.body.getD .skip) = true := by kernel_rfl
theorem ck142 : codeOk hn0 Go.Proofs.Tryz.f142.ntmps (Go.Proofs.Tryz.f142.body.getD .skip) = true := by kernel_rfl
theorem ck147 : codeOk hn0 Go.Proofs.Tryz.f147.ntmps (Go.Proofs.Tryz.f147.body.getD .skip) = true := by kernel_rfl
theorem ck143 : codeOk hn0 Go.Proofs.Tryz.f143.ntmps (Go.Proofs.Tryz.f143.body.getD .skip) = true := by kernel_rfl
theorem ck246 : codeOk hn0 Go.Proofs.Tryz.f246.ntmps (Go.Proofs.Tryz.f246.body.getD .skip) = true := by kernel_rfl
theorem ck368 : codeOk hn0 Go.Proofs.Tryz.f368.ntmps (Go.Proofs.Tryz.f368.body.getD .skip) = true := by kernel_rfl
theorem ck369 : codeOk hn0 Go.Proofs.Tryz.f369.ntmps (Go.Proofs.Tryz.f369.body.getD .skip) = true := by kernel_rfl
theorem ck350 : codeOk hn0 Go.Proofs.Tryz.f350.ntmps (Go.Proofs.Tryz.f350.body.getD .skip) = true := by kernel_rfl
theorem ck306 : codeOk hn0 Go.Proofs.Tryz.f306.ntmps (Go.Proofs.Tryz.f306.body.getD .skip) = true := by kernel_rfl
theorem ck307 : codeOk hn0 Go.Proofs.Tryz.f307.ntmps (Go.Proofs.Tryz.f307.body.getD .skip) = true := by kernel_rfl
theorem ck247 : codeOk hn0 Go.Proofs.Tryz.f247.ntmps (Go.Proofs.Tryz.f247.body.getD .skip) = true := by kernel_rfl
theorem ck149 : codeOk hn0 Go.Proofs.Tryz.f149.ntmps (Go.Proofs.Tryz.f149.body.getD .skip) = true := by kernel_rfl
theorem ck248 : codeOk hn0 Go.Proofs.Tryz.f248.ntmps (Go.Proofs.Tryz.f248.body.getD .skip) = true := by kernel_rfl
theorem ck144 : codeOk hn0 Go.Proofs.Tryz.f144.ntmps (Go.Proofs.Tryz.f144.body.getD .skip) = true := by kernel_rfl
theorem ck68 : codeOk hn0 Go.Proofs.Tryz.f68.ntmps (Go.Proofs.Tryz.f68.body.getD .skip) = true := by kernel_rfl
theorem ck67 : codeOk hn0 Go.Proofs.Tryz.f67.ntmps (Go.Proofs.Tryz.f67.body.getD .skip) = true := by kernel_rfl
theorem ck18 : codeOk hn0 Go.Proofs.Tryz.f18.ntmps (Go.Proofs.Tryz.f18.body.getD .skip) = true := by kernel_rfl
theorem ck34 : codeOk hn0 Go.Proofs.Tryz.f34.ntmps (Go.Proofs.Tryz.f34.body.getD .skip) = true := by kernel_rfl
theorem ck192 : codeOk hn0 Go.Proofs.Tryz.f192.ntmps (Go.Proofs.Tryz.f192.body.getD .skip) = true := by kernel_rfl
theorem ck193 : codeOk hn0 Go.Proofs.Tryz.f193.ntmps (Go.Proofs.Tryz.f193.body.getD .skip) = true := by kernel_rfl
theorem ck379 : codeOk hn0 Go.Proofs.Tryz.f379.ntmps (Go.Proofs.Tryz.f379.body.getD .skip) = true := by kernel_rfl
theorem ck417 : codeOk hn0 Go.Proofs.Tryz.f417.ntmps (Go.Proofs.Tryz.f417.body.getD .skip) = true := by kernel_rfl
theorem ck322 : codeOk hn0 Go.Proofs.Tryz.f322.ntmps (Go.Proofs.Tryz.f322.body.getD .skip) = true := by kernel_rfl
theorem ck425 : codeOk hn0 Go.Proofs.Tryz.f425.ntmps (Go.Proofs.Tryz.f425.body.getD .skip) = true := by kernel_rfl
theorem ck90 : codeOk hn0 Go.Proofs.Tryz.f90.ntmps (Go.Proofs.Tryz.f90.body.getD .skip) = true := by kernel_rfl
theorem ck353 : codeOk hn0 Go.Proofs.Tryz.f353.ntmps (Go.Proofs.Tryz.f353.body.getD .skip) = true := by kernel_rfl
theorem ck380 : codeOk hn0 Go.Proofs.Tryz.f380.ntmps (Go.Proofs.Tryz.f380.body.getD .skip) = true := by kernel_rfl
theorem ck354 : codeOk hn0 Go.Proofs.Tryz.f354.ntmps (Go.Proofs.Tryz.f354.body.getD .skip) = true := by kernel_rfl
theorem ck321 : codeOk hn0 Go.Proofs.Tryz.f321.ntmps (Go.Proofs.Tryz.f321.body.getD .skip) = true := by kernel_rfl
theorem ck416 : codeOk hn0 Go.Proofs.Tryz.f416.ntmps (Go.Proofs.Tryz.f416.body.getD .skip) = true := by kernel_rfl
theorem ck431 : codeOk hn0 Go.Proofs.Tryz.f431.ntmps (Go.Proofs.Tryz.f431.body.getD .skip) = true := by kernel_rfl
theorem ck424 : codeOk hn0 Go.Proofs.Tryz.f424.ntmps (Go.Proofs.Tryz.f424.body.getD .skip) = true := by kernel_rfl
theorem ck35 : codeOk hn0 Go.Proofs.Tryz.f35.ntmps (Go.Proofs.Tryz.f35.body.getD .skip) = true := by kernel_rfl
theorem ck36 : codeOk hn0 Go.Proofs.Tryz.f36.ntmps (Go.Proofs.Tryz.f36.body.getD .skip) = true := by kernel_rfl
theorem ck7 : codeOk hn0 Go.Proofs.Tryz.f7.ntmps (Go.Proofs.Tryz.f7.body.getD .skip) = true := by kernel_rfl
theorem ck88 : codeOk hn0 Go.Proofs.Tryz.f88.ntmps (Go.Proofs.Tryz.f88.body.getD .skip) = true := by kernel_rfl
theorem ck32 : codeOk hn0 Go.Proofs.Tryz.f32.ntmps (Go.Proofs.Tryz.f32.body.getD .skip) = true := by kernel_rfl
theorem ck21 : codeOk hn0 Go.Proofs.Tryz.f21.ntmps (Go.Proofs.Tryz.f21.body.getD .skip) = true := by kernel_rfl
theorem ck148 : codeOk hn0 Go.Proofs.Tryz.f148.ntmps (Go.Proofs.Tryz.f148.body.getD .skip) = true := by kernel_rfl
theorem ck74 : codeOk hn0 Go.Proofs.Tryz.f74.ntmps (Go.Proofs.Tryz.f74.body.getD .skip) = true := by kernel_rfl
theorem ck22 : codeOk hn0 Go.Proofs.Tryz.f22.ntmps (Go.Proofs.Tryz.f22.body.getD .skip) = true := by kernel_rfl
theorem ck112 : codeOk hn0 Go.Proofs.Tryz.f112.ntmps (Go.Proofs.Tryz.f112.body.getD .skip) = true := by kernel_rfl
theorem ck181 : codeOk hn0 Go.Proofs.Tryz.f181.ntmps (Go.Proofs.Tryz.f181.body.getD .skip) = true := by kernel_rfl
theorem ck182 : codeOk hn0 Go.Proofs.Tryz.f182.ntmps (Go.Proofs.Tryz.f182.body.getD .skip) = true := by kernel_rfl
theorem ck277 : codeOk hn0 Go.Proofs.Tryz.f277.ntmps (Go.Proofs.Tryz.f277.body.getD .skip) = true := by kernel_rfl
theorem ck183 : codeOk hn0 Go.Proofs.Tryz.f183.ntmps (Go.Proofs.Tryz.f183.body.getD .skip) = true := by kernel_rfl
theorem ck184 : codeOk hn0 Go.Proofs.Tryz.f184.ntmps (Go.Proofs.Tryz.f184.body.getD .skip) = true := by kernel_rfl
theorem ck336 : codeOk hn0 Go.Proofs.Tryz.f336.ntmps (Go.Proofs.Tryz.f336.body.getD .skip) = true := by kernel_rfl
theorem ck361 : codeOk hn0 Go.Proofs.Tryz.f361.ntmps (Go.Proofs.Tryz.f361.body.getD .skip) = true := by kernel_rfl
theorem ck337 : codeOk hn0 Go.Proofs.Tryz.f337.ntmps (Go.Proofs.Tryz.f337.body.getD .skip) = true := by kernel_rfl
theorem ck362 : codeOk hn0 Go.Proofs.Tryz.f362.ntmps (Go.Proofs.Tryz.f362.body.getD .skip) = true := by kernel_rfl
theorem ck338 : codeOk hn0 Go.Proofs.Tryz.f338.ntmps (Go.Proofs.Tryz.f338.body.getD .skip) = true := by kernel_rfl
theorem ck278 : codeOk hn0 Go.Proofs.Tryz.f278.ntmps (Go.Proofs.Tryz.f278.body.getD .skip) = true := by kernel_rfl
theorem ck279 : codeOk hn0 Go.Proofs.Tryz.f279.ntmps (Go.Proofs.Tryz.f279.body.getD .skip) = true := by kernel_rfl
theorem ck187 : codeOk hn0 Go.Proofs.Tryz.f187.ntmps (Go.Proofs.Tryz.f187.body.getD .skip) = true := by kernel_rfl
theorem ck280 : codeOk hn0 Go.Proofs.Tryz.f280.ntmps (Go.Proofs.Tryz.f280.body.getD .skip) = true := by kernel_rfl
theorem ck188 : codeOk hn0 Go.Proofs.Tryz.f188.ntmps (Go.Proofs.Tryz.f188.body.getD .skip) = true := by kernel_rfl
theorem ck189 : codeOk hn0 Go.Proofs.Tryz.f189.ntmps (Go.Proofs.Tryz.f189.body.getD .skip) = true := by kernel_rfl
theorem ck340 : codeOk hn0 Go.Proofs.Tryz.f340.ntmps (Go.Proofs.Tryz.f340.body.getD .skip) = true := by kernel_rfl
theorem ck281 : codeOk hn0 Go.Proofs.Tryz.f281.ntmps (Go.Proofs.Tryz.f281.body.getD .skip) = true := by kernel_rfl
theorem ck190 : codeOk hn0 Go.Proofs.Tryz.f190.ntmps (Go.Proofs.Tryz.f190.body.getD .skip) = true := by kernel_rfl
theorem ck89 : codeOk hn0 Go.Proofs.Tryz.f89.ntmps (Go.Proofs.Tryz.f89.body.getD .skip) = true := by kernel_rfl
theorem ck217 : codeOk hn0 Go.Proofs.Tryz.f217.ntmps (Go.Proofs.Tryz.f217.body.getD .skip) = true := by kernel_rfl
theorem ck119 : codeOk hn0 Go.Proofs.Tryz.f119.ntmps (Go.Proofs.Tryz.f119.body.getD .skip) = true := by kernel_rfl
theorem ck54 : codeOk hn0 Go.Proofs.Tryz.f54.ntmps (Go.Proofs.Tryz.f54.body.getD .skip) = true := by kernel_rfl
theorem ck33 : codeOk hn0 Go.Proofs.Tryz.f33.ntmps (Go.Proofs.Tryz.f33.body.getD .skip) = true := by kernel_rfl
theorem ck24 : codeOk hn0 Go.Proofs.Tryz.f24.ntmps (Go.Proofs.Tryz.f24.body.getD .skip) = true := by kernel_rfl
theorem ck194 : codeOk hn0 Go.Proofs.Tryz.f194.ntmps (Go.Proofs.Tryz.f194.body.getD .skip) = true := by kernel_rfl
theorem ck91 : codeOk hn0 Go.Proofs.Tryz.f91.ntmps (Go.Proofs.Tryz.f91.body.getD .skip) = true := by kernel_rfl
theorem ck285 : codeOk hn0 Go.Proofs.Tryz.f285.ntmps (Go.Proofs.Tryz.f285.body.getD .skip) = true := by kernel_rfl
theorem ck286 : codeOk hn0 Go.Proofs.Tryz.f286.ntmps (Go.Proofs.Tryz.f286.body.getD .skip) = true := by kernel_rfl
theorem ck195 : codeOk hn0 Go.Proofs.Tryz.f195.ntmps (Go.Proofs.Tryz.f195.body.getD .skip) = true := by kernel_rfl
theorem ck92 : codeOk hn0 Go.Proofs.Tryz.f92.ntmps (Go.Proofs.Tryz.f92.body.getD .skip) = true := by kernel_rfl
theorem ck37 : codeOk hn0 Go.Proofs.Tryz.f37.ntmps (Go.Proofs.Tryz.f37.body.getD .skip) = true := by kernel_rfl
theorem ck25 : codeOk hn0 Go.Proofs.Tryz.f25.ntmps (Go.Proofs.Tryz.f25.body.getD .skip) = true := by kernel_rfl
theorem ck14 : codeOk hn0 Go.Proofs.Tryz.f14.ntmps (Go.Proofs.Tryz.f14.body.getD .skip) = true := by kernel_rfl
theorem ck50 : codeOk hn0 Go.Proofs.Tryz.f50.ntmps (Go.Proofs.Tryz.f50.body.getD .skip) = true := by kernel_rfl
theorem ck154 : codeOk hn0 Go.Proofs.Tryz.f154.ntmps (Go.Proofs.Tryz.f154.body.getD .skip) = true := by kernel_rfl
theorem ck155 : codeOk hn0 Go.Proofs.Tryz.f155.ntmps (Go.Proofs.Tryz.f155.body.getD .skip) = true := by kernel_rfl
theorem ck78 : codeOk hn0 Go.Proofs.Tryz.f78.ntmps (Go.Proofs.Tryz.f78.body.getD .skip) = true := by kernel_rfl
theorem ck26 : codeOk hn0 Go.Proofs.Tryz.f26.ntmps (Go.Proofs.Tryz.f26.body.getD .skip) = true := by kernel_rfl
theorem ck13 : codeOk hn0 Go.Proofs.Tryz.f13.ntmps (Go.Proofs.Tryz.f13.body.getD .skip) = true := by kernel_rfl
theorem ck110 : codeOk hn0 Go.Proofs.Tryz.f110.ntmps (Go.Proofs.Tryz.f110.body.getD .skip) = true := by kernel_rfl
theorem ck161 : codeOk hn0 Go.Proofs.Tryz.f161.ntmps (Go.Proofs.Tryz.f161.body.getD .skip) = true := by kernel_rfl
theorem ck323 : codeOk hn0 Go.Proofs.Tryz.f323.ntmps (Go.Proofs.Tryz.f323.body.getD .skip) = true := by kernel_rfl
theorem ck355 : codeOk hn0 Go.Proofs.Tryz.f355.ntmps (Go.Proofs.Tryz.f355.body.getD .skip) = true := by kernel_rfl
theorem ck324 : codeOk hn0 Go.Proofs.Tryz.f324.ntmps (Go.Proofs.Tryz.f324.body.getD .skip) = true := by kernel_rfl
theorem ck325 : codeOk hn0 Go.Proofs.Tryz.f325.ntmps (Go.Proofs.Tryz.f325.body.getD .skip) = true := by kernel_rfl
theorem ck381 : codeOk hn0 Go.Proofs.Tryz.f381.ntmps (Go.Proofs.Tryz.f381.body.getD .skip) = true := by kernel_rfl
theorem ck359 : codeOk hn0 Go.Proofs.Tryz.f359.ntmps (Go.Proofs.Tryz.f359.body.getD .skip) = true := by kernel_rfl
theorem ck358 : codeOk hn0 Go.Proofs.Tryz.f358.ntmps (Go.Proofs.Tryz.f358.body.getD .skip) = true := by kernel_rfl
theorem ck326 : codeOk hn0 Go.Proofs.Tryz.f326.ntmps (Go.Proofs.Tryz.f326.body.getD .skip) = true := by kernel_rfl
theorem ck327 : codeOk hn0 Go.Proofs.Tryz.f327.ntmps (Go.Proofs.Tryz.f327.body.getD .skip) = true := by kernel_rfl
theorem ck328 : codeOk hn0 Go.Proofs.Tryz.f328.ntmps (Go.Proofs.Tryz.f328.body.getD .skip) = true := by kernel_rfl
theorem ck329 : codeOk hn0 Go.Proofs.Tryz.f329.ntmps (Go.Proofs.Tryz.f329.body.getD .skip) = true := by kernel_rfl
theorem ck330 : codeOk hn0 Go.Proofs.Tryz.f330.ntmps (Go.Proofs.Tryz.f330.body.getD .skip) = true := by kernel_rfl
theorem ck272 : codeOk hn0 Go.Proofs.Tryz.f272.ntmps (Go.Proofs.Tryz.f272.body.getD .skip) = true := by kernel_rfl
theorem ck175 : codeOk hn0 Go.Proofs.Tryz.f175.ntmps (Go.Proofs.Tryz.f175.body.getD .skip) = true := by kernel_rfl
theorem ck176 : codeOk hn0 Go.Proofs.Tryz.f176.ntmps (Go.Proofs.Tryz.f176.body.getD .skip) = true := by kernel_rfl
theorem ck166 : codeOk hn0 Go.Proofs.Tryz.f166.ntmps (Go.Proofs.Tryz.f166.body.getD .skip) = true := by kernel_rfl
theorem ck162 : codeOk hn0 Go.Proofs.Tryz.f162.ntmps (Go.Proofs.Tryz.f162.body.getD .skip) = true := by kernel_rfl
theorem ck80 : codeOk hn0 Go.Proofs.Tryz.f80.ntmps (Go.Proofs.Tryz.f80.body.getD .skip) = true := by kernel_rfl
theorem ck27 : codeOk hn0 Go.Proofs.Tryz.f27.ntmps (Go.Proofs.Tryz.f27.body.getD .skip) = true := by kernel_rfl
theorem ck163 : codeOk hn0 Go.Proofs.Tryz.f163.ntmps (Go.Proofs.Tryz.f163.body.getD .skip) = true := by kernel_rfl
theorem ck164 : codeOk hn0 Go.Proofs.Tryz.f164.ntmps (Go.Proofs.Tryz.f164.body.getD .skip) = true := by kernel_rfl
theorem ck81 : codeOk hn0 Go.Proofs.Tryz.f81.ntmps (Go.Proofs.Tryz.f81.body.getD .skip) = true := by kernel_rfl
theorem ck82 : codeOk hn0 Go.Proofs.Tryz.f82.ntmps (Go.Proofs.Tryz.f82.body.getD .skip) = true := by kernel_rfl
theorem ck83 : codeOk hn0 Go.Proofs.Tryz.f83.ntmps (Go.Proofs.Tryz.f83.body.getD .skip) = true := by kernel_rfl
theorem ck151 : codeOk hn0 Go.Proofs.Tryz.f151.ntmps (Go.Proofs.Tryz.f151.body.getD .skip) = true := by kernel_rfl
theorem ck169 : codeOk hn0 Go.Proofs.Tryz.f169.ntmps (Go.Proofs.Tryz.f169.body.getD .skip) = true := by kernel_rfl
theorem ck315 : codeOk hn0 Go.Proofs.Tryz.f315.ntmps (Go.Proofs.Tryz.f315.body.getD .skip) = true := by kernel_rfl
theorem ck320 : codeOk hn0 Go.Proofs.Tryz.f320.ntmps (Go.Proofs.Tryz.f320.body.getD .skip) = true := by kernel_rfl
theorem ck268 : codeOk hn0 Go.Proofs.Tryz.f268.ntmps (Go.Proofs.Tryz.f268.body.getD .skip) = true := by kernel_rfl
theorem ck269 : codeOk hn0 Go.Proofs.Tryz.f269.ntmps (Go.Proofs.Tryz.f269.body.getD .skip) = true := by kernel_rfl
theorem ck170 : codeOk hn0 Go.Proofs.Tryz.f170.ntmps (Go.Proofs.Tryz.f170.body.getD .skip) = true := by kernel_rfl
theorem ck84 : codeOk hn0 Go.Proofs.Tryz.f84.ntmps (Go.Proofs.Tryz.f84.body.getD .skip) = true := by kernel_rfl
theorem ck171 : codeOk hn0 Go.Proofs.Tryz.f171.ntmps (Go.Proofs.Tryz.f171.body.getD .skip) = true := by kernel_rfl
theorem ck173 : codeOk hn0 Go.Proofs.Tryz.f173.ntmps (Go.Proofs.Tryz.f173.body.getD .skip) = true := by kernel_rfl
theorem ck177 : codeOk hn0 Go.Proofs.Tryz.f177.ntmps (Go.Proofs.Tryz.f177.body.getD .skip) = true := by kernel_rfl
theorem ck85 : codeOk hn0 Go.Proofs.Tryz.f85.ntmps (Go.Proofs.Tryz.f85.body.getD .skip) = true := by kernel_rfl
theorem ck29 : codeOk hn0 Go.Proofs.Tryz.f29.ntmps (Go.Proofs.Tryz.f29.body.getD .skip) = true := by kernel_rfl
theorem ck28 : codeOk hn0 Go.Proofs.Tryz.f28.ntmps (Go.Proofs.Tryz.f28.body.getD .skip) = true := by kernel_rfl
theorem ck87 : codeOk hn0 Go.Proofs.Tryz.f87.ntmps (Go.Proofs.Tryz.f87.body.getD .skip) = true := by kernel_rfl
theorem ck30 : codeOk hn0 Go.Proofs.Tryz.f30.ntmps (Go.Proofs.Tryz.f30.body.getD .skip) = true := by kernel_rfl
theorem ck31 : codeOk hn0 Go.Proofs.Tryz.f31.ntmps (Go.Proofs.Tryz.f31.body.getD .skip) = true := by kernel_rfl
theorem ck5 : codeOk hn0 Go.Proofs.Tryz.f5.ntmps (Go.Proofs.Tryz.f5.body.getD .skip) = true := by kernel_rfl
theorem fnAll : FnAll Go.Proofs.Tryz.prog fnl := .code (c := Go.Proofs.Tryz.f105.body.getD .skip) Go.Proofs.Tryz.func105 rfl ck105 Go.Proofs.Tryz.call105 (.code (c := Go.Proofs.Tryz.f270.body.getD .skip) Go.Proofs.Tryz.func270 rfl ck270 Go.Proofs.Tryz.call270 (.code (c := Go.Proofs.Tryz.f172.body.getD .skip) Go.Proofs.Tryz.func172 rfl ck172 Go.Proofs.Tryz.call172 (.intr (.code (c := Go.Proofs.Tryz.f180.body.getD .skip) Go.Proofs.Tryz.func180 rfl ck180 Go.Proofs.Tryz.call180 (.code (c := Go.Proofs.Tryz.f290.body.getD .skip) Go.Proofs.Tryz.func290 rfl ck290 Go.Proofs.Tryz.call290 (.code (c := Go.Proofs.Tryz.f210.body.getD .skip) Go.Proofs.Tryz.func210 rfl ck210 Go.Proofs.Tryz.call210 (.code (c := Go.Proofs.Tryz.f186.body.getD .skip) Go.Proofs.Tryz.func186 rfl ck186 Go.Proofs.Tryz.call186 (.code (c := Go.Proofs.Tryz.f106.body.getD .skip) Go.Proofs.Tryz.func106 rfl ck106 Go.Proofs.Tryz.call106 (.code (c := Go.Proofs.Tryz.f48.body.getD .skip) Go.Proofs.Tryz.func48 rfl ck48 Go.Proofs.Tryz.call48 (.code (c := Go.Proofs.Tryz.f113.body.getD .skip) Go.Proofs.Tryz.func113 rfl ck113 Go.Proofs.Tryz.call113 (.code (c := Go.Proofs.Tryz.f73.body.getD .skip) Go.Proofs.Tryz.func73 rfl ck73 Go.Proofs.Tryz.call73 (.code (c := Go.Proofs.Tryz.f121.body.getD .skip) Go.Proofs.Tryz.func121 rfl ck121 Go.Proofs.Tryz.call121 (.code (c := Go.Proofs.Tryz.f122.body.getD .skip) Go.Proofs.Tryz.func122 rfl ck122 Go.Proofs.Tryz.call122 (.code (c := Go.Proofs.Tryz.f55.body.getD .skip) Go.Proofs.Tryz.func55 rfl ck55 Go.Proofs.Tryz.call55 (.code (c := Go.Proofs.Tryz.f231.body.getD .skip) Go.Proofs.Tryz.func231 rfl ck231 Go.Proofs.Tryz.call231 (.code (c := Go.Proofs.Tryz.f229.body.getD .skip) Go.Proofs.Tryz.func229 rfl ck229 Go.Proofs.Tryz.call229 (.code (c := Go.Proofs.Tryz.f98.body.getD .skip) Go.Proofs.Tryz.func98 rfl ck98 Go.Proofs.Tryz.call98 (.code (c := Go.Proofs.Tryz.f156.body.getD .skip) Go.Proofs.Tryz.func156 rfl ck156 Go.Proofs.Tryz.call156 (.intr (.code (c := Go.Proofs.Tryz.f230.body.getD .skip) Go.Proofs.Tryz.func230 rfl ck230 Go.Proofs.Tryz.call230 (.code (c := Go.Proofs.Tryz.f232.body.getD .skip) Go.Proofs.Tryz.func232 rfl ck232 Go.Proofs.Tryz.call232 (.code (c := Go.Proofs.Tryz.f233.body.getD .skip) Go.Proofs.Tryz.func233 rfl ck233 Go.Proofs.Tryz.call233 (.code (c := Go.Proofs.Tryz.f133.body.getD .skip) Go.Proofs.Tryz.func133 rfl ck133 Go.Proofs.Tryz.call133 (.code (c := Go.Proofs.Tryz.f60.body.getD .skip) Go.Proofs.Tryz.func60 rfl ck60 Go.Proofs.Tryz.call60 (.code (c := Go.Proofs.Tryz.f114.body.getD .skip) Go.Proofs.Tryz.func114 rfl ck114 Go.Proofs.Tryz.call114 (.code (c := Go.Proofs.Tryz.f115.body.getD .skip) Go.Proofs.Tryz.func115 rfl ck115 Go.Proofs.Tryz.call115 (.code (c := Go.Proofs.Tryz.f211.body.getD .skip) Go.Proofs.Tryz.func211 rfl ck211 Go.Proofs.Tryz.call211 (.code (c := Go.Proofs.Tryz.f291.body.getD .skip) Go.Proofs.Tryz.func291 rfl ck291 Go.Proofs.Tryz.call291 (.code (c := Go.Proofs.Tryz.f292.body.getD .skip) Go.Proofs.Tryz.func292 rfl ck292 Go.Proofs.Tryz.call292 (.code (c := Go.Proofs.Tryz.f218.body.getD .skip) Go.Proofs.Tryz.func218 rfl ck218 Go.Proofs.Tryz.call218 (.code (c := Go.Proofs.Tryz.f219.body.getD .skip) Go.Proofs.Tryz.func219 rfl ck219 Go.Proofs.Tryz.call219 (.code (c := Go.Proofs.Tryz.f282.body.getD .skip) Go.Proofs.Tryz.func282 rfl ck282 Go.Proofs.Tryz.call282 (.code (c := Go.Proofs.Tryz.f283.body.getD .skip) Go.Proofs.Tryz.func283 rfl ck283 Go.Proofs.Tryz.call283 (.code (c := Go.Proofs.Tryz.f220.body.getD .skip) Go.Proofs.Tryz.func220 rfl ck220 Go.Proofs.Tryz.call220 (.code (c := Go.Proofs.Tryz.f120.body.getD .skip) Go.Proofs.Tryz.func120 rfl ck120 Go.Proofs.Tryz.call120 (.code (c := Go.Proofs.Tryz.f339.body.getD .skip) Go.Proofs.Tryz.func339 rfl ck339 Go.Proofs.Tryz.call339 (.code (c := Go.Proofs.Tryz.f293.body.getD .skip) Go.Proofs.Tryz.func293 rfl ck293 Go.Proofs.Tryz.call293 (.code (c := Go.Proofs.Tryz.f284.body.getD .skip) Go.Proofs.Tryz.func284 rfl ck284 Go.Proofs.Tryz.call284 (.code (c := Go.Proofs.Tryz.f343.body.getD .skip) Go.Proofs.Tryz.func343 rfl ck343 Go.Proofs.Tryz.call343 (.code (c := Go.Proofs.Tryz.f294.body.getD .skip) Go.Proofs.Tryz.func294 rfl ck294 Go.Proofs.Tryz.call294 (.code (c := Go.Proofs.Tryz.f212.body.getD .skip) Go.Proofs.Tryz.func212 rfl ck212 Go.Proofs.Tryz.call212 (.code (c := Go.Proofs.Tryz.f116.body.getD .skip) Go.Proofs.Tryz.func116 rfl ck116 Go.Proofs.Tryz.call116 (.intr (.intr (.code (c := Go.Proofs.Tryz.f295.body.getD .skip) Go.Proofs.Tryz.func295 rfl ck295 Go.Proofs.Tryz.call295 (.code (c := Go.Proofs.Tryz.f214.body.getD .skip) Go.Proofs.Tryz.func214 rfl ck214 Go.Proofs.Tryz.call214 (.code (c := Go.Proofs.Tryz.f215.body.getD .skip) Go.Proofs.Tryz.func215 rfl ck215 Go.Proofs.Tryz.call215 (.code (c := Go.Proofs.Tryz.f117.body.getD .skip) Go.Proofs.Tryz.func117 rfl ck117 Go.Proofs.Tryz.call117 (.code (c := Go.Proofs.Tryz.f118.body.getD .skip) Go.Proofs.Tryz.func118 rfl ck118 Go.Proofs.Tryz.call118 (.code (c := Go.Proofs.Tryz.f51.body.getD .skip) Go.Proofs.Tryz.func51 rfl ck51 Go.Proofs.Tryz.call51 (.intr (.code (c := Go.Proofs.Tryz.f263.body.getD .skip) Go.Proofs.Tryz.func263 rfl ck263 Go.Proofs.Tryz.call263 (.code (c := Go.Proofs.Tryz.f264.body.getD .skip) Go.Proofs.Tryz.func264 rfl ck264 Go.Proofs.Tryz.call264 (.code (c := Go.Proofs.Tryz.f271.body.getD .skip) Go.Proofs.Tryz.func271 rfl ck271 Go.Proofs.Tryz.call271 (.code (c := Go.Proofs.Tryz.f245.body.getD .skip) Go.Proofs.Tryz.func245 rfl ck245 Go.Proofs.Tryz.call245 (.code (c := Go.Proofs.Tryz.f253.body.getD .skip) Go.Proofs.Tryz.func253 rfl ck253 Go.Proofs.Tryz.call253 (.code (c := Go.Proofs.Tryz.f244.body.getD .skip) Go.Proofs.Tryz.func244 rfl ck244 Go.Proofs.Tryz.call244 (.code (c := Go.Proofs.Tryz.f260.body.getD .skip) Go.Proofs.Tryz.func260 rfl ck260 Go.Proofs.Tryz.call260 (.code (c := Go.Proofs.Tryz.f261.body.getD .skip) Go.Proofs.Tryz.func261 rfl ck261 Go.Proofs.Tryz.call261 (.code (c := Go.Proofs.Tryz.f265.body.getD .skip) Go.Proofs.Tryz.func265 rfl ck265 Go.Proofs.Tryz.call265 (.code (c := Go.Proofs.Tryz.f165.body.getD .skip) Go.Proofs.Tryz.func165 rfl ck165 Go.Proofs.Tryz.call165 (.code (c := Go.Proofs.Tryz.f174.body.getD .skip) Go.Proofs.Tryz.func174 rfl ck174 Go.Proofs.Tryz.call174 (.intr (.code (c := Go.Proofs.Tryz.f318.body.getD .skip) Go.Proofs.Tryz.func318 rfl ck318 Go.Proofs.Tryz.call318 (.code (c := Go.Proofs.Tryz.f317.body.getD .skip) Go.Proofs.Tryz.func317 rfl ck317 Go.Proofs.Tryz.call317 (.code (c := Go.Proofs.Tryz.f266.body.getD .skip) Go.Proofs.Tryz.func266 rfl ck266 Go.Proofs.Tryz.call266 (.code (c := Go.Proofs.Tryz.f167.body.getD .skip) Go.Proofs.Tryz.func167 rfl ck167 Go.Proofs.Tryz.call167 (.code (c := Go.Proofs.Tryz.f319.body.getD .skip) Go.Proofs.Tryz.func319 rfl ck319 Go.Proofs.Tryz.call319 (.code (c := Go.Proofs.Tryz.f267.body.getD .skip) Go.Proofs.Tryz.func267 rfl ck267 Go.Proofs.Tryz.call267 (.code (c := Go.Proofs.Tryz.f168.body.getD .skip) Go.Proofs.Tryz.func168 rfl ck168 Go.Proofs.Tryz.call168 (.code (c := Go.Proofs.Tryz.f138.body.getD .skip) Go.Proofs.Tryz.func138 rfl ck138 Go.Proofs.Tryz.call138 (.code (c := Go.Proofs.Tryz.f239.body.getD .skip) Go.Proofs.Tryz.func239 rfl ck239 Go.Proofs.Tryz.call239 (.code (c := Go.Proofs.Tryz.f346.body.getD .skip) Go.Proofs.Tryz.func346 rfl ck346 Go.Proofs.Tryz.call346 (.code (c := Go.Proofs.Tryz.f366.body.getD .skip) Go.Proofs.Tryz.func366 rfl ck366 Go.Proofs.Tryz.call366 (.code (c := Go.Proofs.Tryz.f347.body.getD .skip) Go.Proofs.Tryz.func347 rfl ck347 Go.Proofs.Tryz.call347 (.code (c := Go.Proofs.Tryz.f345.body.getD .skip) Go.Proofs.Tryz.func345 rfl ck345 Go.Proofs.Tryz.call345 (.code (c := Go.Proofs.Tryz.f348.body.getD .skip) Go.Proofs.Tryz.func348 rfl ck348 Go.Proofs.Tryz.call348 (.code (c := Go.Proofs.Tryz.f301.body.getD .skip) Go.Proofs.Tryz.func301 rfl ck301 Go.Proofs.Tryz.call301 (.code (c := Go.Proofs.Tryz.f238.body.getD .skip) Go.Proofs.Tryz.func238 rfl ck238 Go.Proofs.Tryz.call238 (.code (c := Go.Proofs.Tryz.f221.body.getD .skip) Go.Proofs.Tryz.func221 rfl ck221 Go.Proofs.Tryz.call221 (.code (c := Go.Proofs.Tryz.f123.body.getD .skip) Go.Proofs.Tryz.func123 rfl ck123 Go.Proofs.Tryz.call123 (.code (c := Go.Proofs.Tryz.f126.body.getD .skip) Go.Proofs.Tryz.func126 rfl ck126 Go.Proofs.Tryz.call126 (.code (c := Go.Proofs.Tryz.f132.body.getD .skip) Go.Proofs.Tryz.func132 rfl ck132 Go.Proofs.Tryz.call132 (.code (c := Go.Proofs.Tryz.f256.body.getD .skip) Go.Proofs.Tryz.func256 rfl ck256 Go.Proofs.Tryz.call256 (.code (c := Go.Proofs.Tryz.f258.body.getD .skip) Go.Proofs.Tryz.func258 rfl ck258 Go.Proofs.Tryz.call258 (.code (c := Go.Proofs.Tryz.f159.body.getD .skip) Go.Proofs.Tryz.func159 rfl ck159 Go.Proofs.Tryz.call159 (.code (c := Go.Proofs.Tryz.f257.body.getD .skip) Go.Proofs.Tryz.func257 rfl ck257 Go.Proofs.Tryz.call257 (.code (c := Go.Proofs.Tryz.f157.body.getD .skip) Go.Proofs.Tryz.func157 rfl ck157 Go.Proofs.Tryz.call157 (.code (c := Go.Proofs.Tryz.f259.body.getD .skip) Go.Proofs.Tryz.func259 rfl ck259 Go.Proofs.Tryz.call259 (.code (c := Go.Proofs.Tryz.f158.body.getD .skip) Go.Proofs.Tryz.func158 rfl ck158 Go.Proofs.Tryz.call158 (.code (c := Go.Proofs.Tryz.f160.body.getD .skip) Go.Proofs.Tryz.func160 rfl ck160 Go.Proofs.Tryz.call160 (.code (c := Go.Proofs.Tryz.f79.body.getD .skip) Go.Proofs.Tryz.func79 rfl ck79 Go.Proofs.Tryz.call79 (.code (c := Go.Proofs.Tryz.f197.body.getD .skip) Go.Proofs.Tryz.func197 rfl ck197 Go.Proofs.Tryz.call197 (.code (c := Go.Proofs.Tryz.f95.body.getD .skip) Go.Proofs.Tryz.func95 rfl ck95 Go.Proofs.Tryz.call95 (.code (c := Go.Proofs.Tryz.f96.body.getD .skip) Go.Proofs.Tryz.func96 rfl ck96 Go.Proofs.Tryz.call96 (.code (c := Go.Proofs.Tryz.f199.body.getD .skip) Go.Proofs.Tryz.func199 rfl ck199 Go.Proofs.Tryz.call199 (.code (c := Go.Proofs.Tryz.f200.body.getD .skip) Go.Proofs.Tryz.func200 rfl ck200 Go.Proofs.Tryz.call200 (.intr (.code (c := Go.Proofs.Tryz.f331.body.getD .skip) Go.Proofs.Tryz.func331 rfl ck331 Go.Proofs.Tryz.call331 (.code (c := Go.Proofs.Tryz.f332.body.getD .skip) Go.Proofs.Tryz.func332 rfl ck332 Go.Proofs.Tryz.call332 (.code (c := Go.Proofs.Tryz.f273.body.getD .skip) Go.Proofs.Tryz.func273 rfl ck273 Go.Proofs.Tryz.call273 (.code (c := Go.Proofs.Tryz.f383.body.getD .skip) Go.Proofs.Tryz.func383 rfl ck383 Go.Proofs.Tryz.call383 (.code (c := Go.Proofs.Tryz.f395.body.getD .skip) Go.Proofs.Tryz.func395 rfl ck395 Go.Proofs.Tryz.call395 (.code (c := Go.Proofs.Tryz.f384.body.getD .skip) Go.Proofs.Tryz.func384 rfl ck384 Go.Proofs.Tryz.call384 (.code (c := Go.Proofs.Tryz.f356.body.getD .skip) Go.Proofs.Tryz.func356 rfl ck356 Go.Proofs.Tryz.call356 (.code (c := Go.Proofs.Tryz.f357.body.getD .skip) Go.Proofs.Tryz.func357 rfl ck357 Go.Proofs.Tryz.call357 (.code (c := Go.Proofs.Tryz.f385.body.getD .skip) Go.Proofs.Tryz.func385 rfl ck385 Go.Proofs.Tryz.call385 (.code (c := Go.Proofs.Tryz.f399.body.getD .skip) Go.Proofs.Tryz.func399 rfl ck399 Go.Proofs.Tryz.call399 (.code (c := Go.Proofs.Tryz.f397.body.getD .skip) Go.Proofs.Tryz.func397 rfl ck397 Go.Proofs.Tryz.call397 (.code (c := Go.Proofs.Tryz.f396.body.getD .skip) Go.Proofs.Tryz.func396 rfl ck396 Go.Proofs.Tryz.call396 (.code (c := Go.Proofs.Tryz.f386.body.getD .skip) Go.Proofs.Tryz.func386 rfl ck386 Go.Proofs.Tryz.call386 (.code (c := Go.Proofs.Tryz.f387.body.getD .skip) Go.Proofs.Tryz.func387 rfl ck387 Go.Proofs.Tryz.call387 (.code (c := Go.Proofs.Tryz.f388.body.getD .skip) Go.Proofs.Tryz.func388 rfl ck388 Go.Proofs.Tryz.call388 (.code (c := Go.Proofs.Tryz.f389.body.getD .skip) Go.Proofs.Tryz.func389 rfl ck389 Go.Proofs.Tryz.call389 (.code (c := Go.Proofs.Tryz.f390.body.getD .skip) Go.Proofs.Tryz.func390 rfl ck390 Go.Proofs.Tryz.call390 (.code (c := Go.Proofs.Tryz.f363.body.getD .skip) Go.Proofs.Tryz.func363 rfl ck363 Go.Proofs.Tryz.call363 (.code (c := Go.Proofs.Tryz.f341.body.getD .skip) Go.Proofs.Tryz.func341 rfl ck341 Go.Proofs.Tryz.call341 (.code (c := Go.Proofs.Tryz.f342.body.getD .skip) Go.Proofs.Tryz.func342 rfl ck342 Go.Proofs.Tryz.call342 (.code (c := Go.Proofs.Tryz.f288.body.getD .skip) Go.Proofs.Tryz.func288 rfl ck288 Go.Proofs.Tryz.call288 (.code (c := Go.Proofs.Tryz.f196.body.getD .skip) Go.Proofs.Tryz.func196 rfl ck196 Go.Proofs.Tryz.call196 (.code (c := Go.Proofs.Tryz.f94.body.getD .skip) Go.Proofs.Tryz.func94 rfl ck94 Go.Proofs.Tryz.call94 (.code (c := Go.Proofs.Tryz.f97.body.getD .skip) Go.Proofs.Tryz.func97 rfl ck97 Go.Proofs.Tryz.call97 (.code (c := Go.Proofs.Tryz.f44.body.getD .skip) Go.Proofs.Tryz.func44 rfl ck44 Go.Proofs.Tryz.call44 (.code (c := Go.Proofs.Tryz.f93.body.getD .skip) Go.Proofs.Tryz.func93 rfl ck93 Go.Proofs.Tryz.call93 (.code (c := Go.Proofs.Tryz.f205.body.getD .skip) Go.Proofs.Tryz.func205 rfl ck205 Go.Proofs.Tryz.call205 (.code (c := Go.Proofs.Tryz.f107.body.getD .skip) Go.Proofs.Tryz.func107 rfl ck107 Go.Proofs.Tryz.call107 (.code (c := Go.Proofs.Tryz.f124.body.getD .skip) Go.Proofs.Tryz.func124 rfl ck124 Go.Proofs.Tryz.call124 (.code (c := Go.Proofs.Tryz.f125.body.getD .skip) Go.Proofs.Tryz.func125 rfl ck125 Go.Proofs.Tryz.call125 (.code (c := Go.Proofs.Tryz.f56.body.getD .skip) Go.Proofs.Tryz.func56 rfl ck56 Go.Proofs.Tryz.call56 (.code (c := Go.Proofs.Tryz.f223.body.getD .skip) Go.Proofs.Tryz.func223 rfl ck223 Go.Proofs.Tryz.call223 (.code (c := Go.Proofs.Tryz.f222.body.getD .skip) Go.Proofs.Tryz.func222 rfl ck222 Go.Proofs.Tryz.call222 (.code (c := Go.Proofs.Tryz.f127.body.getD .skip) Go.Proofs.Tryz.func127 rfl ck127 Go.Proofs.Tryz.call127 (.code (c := Go.Proofs.Tryz.f57.body.getD .skip) Go.Proofs.Tryz.func57 rfl ck57 Go.Proofs.Tryz.call57 (.code (c := Go.Proofs.Tryz.f178.body.getD .skip) Go.Proofs.Tryz.func178 rfl ck178 Go.Proofs.Tryz.call178 (.code (c := Go.Proofs.Tryz.f185.body.getD .skip) Go.Proofs.Tryz.func185 rfl ck185 Go.Proofs.Tryz.call185 (.code (c := Go.Proofs.Tryz.f209.body.getD .skip) Go.Proofs.Tryz.func209 rfl ck209 Go.Proofs.Tryz.call209 (.code (c := Go.Proofs.Tryz.f297.body.getD .skip) Go.Proofs.Tryz.func297 rfl ck297 Go.Proofs.Tryz.call297 (.code (c := Go.Proofs.Tryz.f298.body.getD .skip) Go.Proofs.Tryz.func298 rfl ck298 Go.Proofs.Tryz.call298 (.code (c := Go.Proofs.Tryz.f225.body.getD .skip) Go.Proofs.Tryz.func225 rfl ck225 Go.Proofs.Tryz.call225 (.code (c := Go.Proofs.Tryz.f274.body.getD .skip) Go.Proofs.Tryz.func274 rfl ck274 Go.Proofs.Tryz.call274 (.code (c := Go.Proofs.Tryz.f296.body.getD .skip) Go.Proofs.Tryz.func296 rfl ck296 Go.Proofs.Tryz.call296 (.code (c := Go.Proofs.Tryz.f333.body.getD .skip) Go.Proofs.Tryz.func333 rfl ck333 Go.Proofs.Tryz.call333 (.code (c := Go.Proofs.Tryz.f275.body.getD .skip) Go.Proofs.Tryz.func275 rfl ck275 Go.Proofs.Tryz.call275 (.intr (.code (c := Go.Proofs.Tryz.f179.body.getD .skip) Go.Proofs.Tryz.func179 rfl ck179 Go.Proofs.Tryz.call179 (.code (c := Go.Proofs.Tryz.f86.body.getD .skip) Go.Proofs.Tryz.func86 rfl ck86 Go.Proofs.Tryz.call86 (.code (c := Go.Proofs.Tryz.f224.body.getD .skip) Go.Proofs.Tryz.func224 rfl ck224 Go.Proofs.Tryz.call224 (.intr (.code (c := Go.Proofs.Tryz.f227.body.getD .skip) Go.Proofs.Tryz.func227 rfl ck227 Go.Proofs.Tryz.call227 (.code (c := Go.Proofs.Tryz.f129.body.getD .skip) Go.Proofs.Tryz.func129 rfl ck129 Go.Proofs.Tryz.call129 (.code (c := Go.Proofs.Tryz.f128.body.getD .skip) Go.Proofs.Tryz.func128 rfl ck128 Go.Proofs.Tryz.call128 (.code (c := Go.Proofs.Tryz.f58.body.getD .skip) Go.Proofs.Tryz.func58 rfl ck58 Go.Proofs.Tryz.call58 (.code (c := Go.Proofs.Tryz.f131.body.getD .skip) Go.Proofs.Tryz.func131 rfl ck131 Go.Proofs.Tryz.call131 (.code (c := Go.Proofs.Tryz.f59.body.getD .skip) Go.Proofs.Tryz.func59 rfl ck59 Go.Proofs.Tryz.call59 (.code (c := Go.Proofs.Tryz.f61.body.getD .skip) Go.Proofs.Tryz.func61 rfl ck61 Go.Proofs.Tryz.call61 (.code (c := Go.Proofs.Tryz.f62.body.getD .skip) Go.Proofs.Tryz.func62 rfl ck62 Go.Proofs.Tryz.call62 (.code (c := Go.Proofs.Tryz.f63.body.getD .skip) Go.Proofs.Tryz.func63 rfl ck63 Go.Proofs.Tryz.call63 (.code (c := Go.Proofs.Tryz.f101.body.getD .skip) Go.Proofs.Tryz.func101 rfl ck101 Go.Proofs.Tryz.call101 (.code (c := Go.Proofs.Tryz.f198.body.getD .skip) Go.Proofs.Tryz.func198 rfl ck198 Go.Proofs.Tryz.call198 (.code (c := Go.Proofs.Tryz.f99.body.getD .skip) Go.Proofs.Tryz.func99 rfl ck99 Go.Proofs.Tryz.call99 (.code (c := Go.Proofs.Tryz.f45.body.getD .skip) Go.Proofs.Tryz.func45 rfl ck45 Go.Proofs.Tryz.call45 (.code (c := Go.Proofs.Tryz.f100.body.getD .skip) Go.Proofs.Tryz.func100 rfl ck100 Go.Proofs.Tryz.call100 (.code (c := Go.Proofs.Tryz.f202.body.getD .skip) Go.Proofs.Tryz.func202 rfl ck202 Go.Proofs.Tryz.call202 (.code (c := Go.Proofs.Tryz.f203.body.getD .skip) Go.Proofs.Tryz.func203 rfl ck203 Go.Proofs.Tryz.call203 (.code (c := Go.Proofs.Tryz.f201.body.getD .skip) Go.Proofs.Tryz.func201 rfl ck201 Go.Proofs.Tryz.call201 (.code (c := Go.Proofs.Tryz.f102.body.getD .skip) Go.Proofs.Tryz.func102 rfl ck102 Go.Proofs.Tryz.call102 (.code (c := Go.Proofs.Tryz.f103.body.getD .skip) Go.Proofs.Tryz.func103 rfl ck103 Go.Proofs.Tryz.call103 (.code (c := Go.Proofs.Tryz.f46.body.getD .skip) Go.Proofs.Tryz.func46 rfl ck46 Go.Proofs.Tryz.call46 (.code (c := Go.Proofs.Tryz.f206.body.getD .skip) Go.Proofs.Tryz.func206 rfl ck206 Go.Proofs.Tryz.call206 (.code (c := Go.Proofs.Tryz.f207.body.getD .skip) Go.Proofs.Tryz.func207 rfl ck207 Go.Proofs.Tryz.call207 (.code (c := Go.Proofs.Tryz.f108.body.getD .skip) Go.Proofs.Tryz.func108 rfl ck108 Go.Proofs.Tryz.call108 (.code (c := Go.Proofs.Tryz.f66.body.getD .skip) Go.Proofs.Tryz.func66 rfl ck66 Go.Proofs.Tryz.call66 (.code (c := Go.Proofs.Tryz.f42.body.getD .skip) Go.Proofs.Tryz.func42 rfl ck42 Go.Proofs.Tryz.call42 (.code (c := Go.Proofs.Tryz.f289.body.getD .skip) Go.Proofs.Tryz.func289 rfl ck289 Go.Proofs.Tryz.call289 (.code (c := Go.Proofs.Tryz.f208.body.getD .skip) Go.Proofs.Tryz.func208 rfl ck208 Go.Proofs.Tryz.call208 (.code (c := Go.Proofs.Tryz.f111.body.getD .skip) Go.Proofs.Tryz.func111 rfl ck111 Go.Proofs.Tryz.call111 (.code (c := Go.Proofs.Tryz.f70.body.getD .skip) Go.Proofs.Tryz.func70 rfl ck70 Go.Proofs.Tryz.call70 (.code (c := Go.Proofs.Tryz.f234.body.getD .skip) Go.Proofs.Tryz.func234 rfl ck234 Go.Proofs.Tryz.call234 (.code (c := Go.Proofs.Tryz.f134.body.getD .skip) Go.Proofs.Tryz.func134 rfl ck134 Go.Proofs.Tryz.call134 (.code (c := Go.Proofs.Tryz.f69.body.getD .skip) Go.Proofs.Tryz.func69 rfl ck69 Go.Proofs.Tryz.call69 (.code (c := Go.Proofs.Tryz.f302.body.getD .skip) Go.Proofs.Tryz.func302 rfl ck302 Go.Proofs.Tryz.call302 (.code (c := Go.Proofs.Tryz.f303.body.getD .skip) Go.Proofs.Tryz.func303 rfl ck303 Go.Proofs.Tryz.call303 (.code (c := Go.Proofs.Tryz.f240.body.getD .skip) Go.Proofs.Tryz.func240 rfl ck240 Go.Proofs.Tryz.call240 (.intr (.code (c := Go.Proofs.Tryz.f242.body.getD .skip) Go.Proofs.Tryz.func242 rfl ck242 Go.Proofs.Tryz.call242 (.code (c := Go.Proofs.Tryz.f140.body.getD .skip) Go.Proofs.Tryz.func140 rfl ck140 Go.Proofs.Tryz.call140 (.code (c := Go.Proofs.Tryz.f137.body.getD .skip) Go.Proofs.Tryz.func137 rfl ck137 Go.Proofs.Tryz.call137 (.code (c := Go.Proofs.Tryz.f235.body.getD .skip) Go.Proofs.Tryz.func235 rfl ck235 Go.Proofs.Tryz.call235 (.code (c := Go.Proofs.Tryz.f300.body.getD .skip) Go.Proofs.Tryz.func300 rfl ck300 Go.Proofs.Tryz.call300 (.code (c := Go.Proofs.Tryz.f237.body.getD .skip) Go.Proofs.Tryz.func237 rfl ck237 Go.Proofs.Tryz.call237 (.code (c := Go.Proofs.Tryz.f236.body.getD .skip) Go.Proofs.Tryz.func236 rfl ck236 Go.Proofs.Tryz.call236 (.code (c := Go.Proofs.Tryz.f139.body.getD .skip) Go.Proofs.Tryz.func139 rfl ck139 Go.Proofs.Tryz.call139 (.code (c := Go.Proofs.Tryz.f243.body.getD .skip) Go.Proofs.Tryz.func243 rfl ck243 Go.Proofs.Tryz.call243 (.code (c := Go.Proofs.Tryz.f141.body.getD .skip) Go.Proofs.Tryz.func141 rfl ck141 Go.Proofs.Tryz.call141 (.intr (.code (c := Go.Proofs.Tryz.f145.body.getD .skip) Go.Proofs.Tryz.func145 rfl ck145 Go.Proofs.Tryz.call145 (.code (c := Go.Proofs.Tryz.f109.body.getD .skip) Go.Proofs.Tryz.func109 rfl ck109 Go.Proofs.Tryz.call109 (.code (c := Go.Proofs.Tryz.f135.body.getD .skip) Go.Proofs.Tryz.func135 rfl ck135 Go.Proofs.Tryz.call135 (.code (c := Go.Proofs.Tryz.f64.body.getD .skip) Go.Proofs.Tryz.func64 rfl ck64 Go.Proofs.Tryz.call64 (.code (c := Go.Proofs.Tryz.f150.body.getD .skip) Go.Proofs.Tryz.func150 rfl ck150 Go.Proofs.Tryz.call150 (.code (c := Go.Proofs.Tryz.f136.body.getD .skip) Go.Proofs.Tryz.func136 rfl ck136 Go.Proofs.Tryz.call136 (.code (c := Go.Proofs.Tryz.f65.body.getD .skip) Go.Proofs.Tryz.func65 rfl ck65 Go.Proofs.Tryz.call65 (.code (c := Go.Proofs.Tryz.f142.body.getD .skip) Go.Proofs.Tryz.func142 rfl ck142 Go.Proofs.Tryz.call142 (.code (c := Go.Proofs.Tryz.f147.body.getD .skip) Go.Proofs.Tryz.func147 rfl ck147 Go.Proofs.Tryz.call147 (.code (c := Go.Proofs.Tryz.f143.body.getD .skip) Go.Proofs.Tryz.func143 rfl ck143 Go.Proofs.Tryz.call143 (.code (c := Go.Proofs.Tryz.f246.body.getD .skip) Go.Proofs.Tryz.func246 rfl ck246 Go.Proofs.Tryz.call246 (.code (c := Go.Proofs.Tryz.f368.body.getD .skip) Go.Proofs.Tryz.func368 rfl ck368 Go.Proofs.Tryz.call368 (.code (c := Go.Proofs.Tryz.f369.body.getD .skip) Go.Proofs.Tryz.func369 rfl ck369 Go.Proofs.Tryz.call369 (.code (c := Go.Proofs.Tryz.f350.body.getD .skip) Go.Proofs.Tryz.func350 rfl ck350 Go.Proofs.Tryz.call350 (.code (c := Go.Proofs.Tryz.f306.body.getD .skip) Go.Proofs.Tryz.func306 rfl ck306 Go.Proofs.Tryz.call306 (.code (c := Go.Proofs.Tryz.f307.body.getD .skip) Go.Proofs.Tryz.func307 rfl ck307 Go.Proofs.Tryz.call307 (.code (c := Go.Proofs.Tryz.f247.body.getD .skip) Go.Proofs.Tryz.func247 rfl ck247 Go.Proofs.Tryz.call247 (.code (c := Go.Proofs.Tryz.f149.body.getD .skip) Go.Proofs.Tryz.func149 rfl ck149 Go.Proofs.Tryz.call149 (.code (c := Go.Proofs.Tryz.f248.body.getD .skip) Go.Proofs.Tryz.func248 rfl ck248 Go.Proofs.Tryz.call248 (.code (c := Go.Proofs.Tryz.f144.body.getD .skip) Go.Proofs.Tryz.func144 rfl ck144 Go.Proofs.Tryz.call144 (.code (c := Go.Proofs.Tryz.f68.body.getD .skip) Go.Proofs.Tryz.func68 rfl ck68 Go.Proofs.Tryz.call68 (.code (c := Go.Proofs.Tryz.f67.body.getD .skip) Go.Proofs.Tryz.func67 rfl ck67 Go.Proofs.Tryz.call67 (.code (c := Go.Proofs.Tryz.f18.body.getD .skip) Go.Proofs.Tryz.func18 rfl ck18 Go.Proofs.Tryz.call18 (.code (c := Go.Proofs.Tryz.f34.body.getD .skip) Go.Proofs.Tryz.func34 rfl ck34 Go.Proofs.Tryz.call34 (.code (c := Go.Proofs.Tryz.f192.body.getD .skip) Go.Proofs.Tryz.func192 rfl ck192 Go.Proofs.Tryz.call192 (.code (c := Go.Proofs.Tryz.f193.body.getD .skip) Go.Proofs.Tryz.func193 rfl ck193 Go.Proofs.Tryz.call193 (.code (c := Go.Proofs.Tryz.f379.body.getD .skip) Go.Proofs.Tryz.func379 rfl ck379 Go.Proofs.Tryz.call379 (.code (c := Go.Proofs.Tryz.f417.body.getD .skip) Go.Proofs.Tryz.func417 rfl ck417 Go.Proofs.Tryz.call417 (.code (c := Go.Proofs.Tryz.f322.body.getD .skip) Go.Proofs.Tryz.func322 rfl ck322 Go.Proofs.Tryz.call322 (.code (c := Go.Proofs.Tryz.f425.body.getD .skip) Go.Proofs.Tryz.func425 rfl ck425 Go.Proofs.Tryz.call425 (.code (c := Go.Proofs.Tryz.f90.body.getD .skip) Go.Proofs.Tryz.func90 rfl ck90 Go.Proofs.Tryz.call90 (.code (c := Go.Proofs.Tryz.f353.body.getD .skip) Go.Proofs.Tryz.func353 rfl ck353 Go.Proofs.Tryz.call353 (.code (c := Go.Proofs.Tryz.f380.body.getD .skip) Go.Proofs.Tryz.func380 rfl ck380 Go.Proofs.Tryz.call380 (.code (c := Go.Proofs.Tryz.f354.body.getD .skip) Go.Proofs.Tryz.func354 rfl ck354 Go.Proofs.Tryz.call354 (.code (c := Go.Proofs.Tryz.f321.body.getD .skip) Go.Proofs.Tryz.func321 rfl ck321 Go.Proofs.Tryz.call321 (.code (c := Go.Proofs.Tryz.f416.body.getD .skip) Go.Proofs.Tryz.func416 rfl ck416 Go.Proofs.Tryz.call416 (.code (c := Go.Proofs.Tryz.f431.body.getD .skip) Go.Proofs.Tryz.func431 rfl ck431 Go.Proofs.Tryz.call431 (.code (c := Go.Proofs.Tryz.f424.body.getD .skip) Go.Proofs.Tryz.func424 rfl ck424 Go.Proofs.Tryz.call424 (.code (c := Go.Proofs.Tryz.f35.body.getD .skip) Go.Proofs.Tryz.func35 rfl ck35 Go.Proofs.Tryz.call35 (.code (c := Go.Proofs.Tryz.f36.body.getD .skip) Go.Proofs.Tryz.func36 rfl ck36 Go.Proofs.Tryz.call36 (.code (c := Go.Proofs.Tryz.f7.body.getD .skip) Go.Proofs.Tryz.func7 rfl ck7 Go.Proofs.Tryz.call7 (.code (c := Go.Proofs.Tryz.f88.body.getD .skip) Go.Proofs.Tryz.func88 rfl ck88 Go.Proofs.Tryz.call88 (.code (c := Go.Proofs.Tryz.f32.body.getD .skip) Go.Proofs.Tryz.func32 rfl ck32 Go.Proofs.Tryz.call32 (.code (c := Go.Proofs.Tryz.f21.body.getD .skip) Go.Proofs.Tryz.func21 rfl ck21 Go.Proofs.Tryz.call21 (.code (c := Go.Proofs.Tryz.f148.body.getD .skip) Go.Proofs.Tryz.func148 rfl ck148 Go.Proofs.Tryz.call148 (.code (c := Go.Proofs.Tryz.f74.body.getD .skip) Go.Proofs.Tryz.func74 rfl ck74 Go.Proofs.Tryz.call74 (.code (c := Go.Proofs.Tryz.f22.body.getD .skip) Go.Proofs.Tryz.func22 rfl ck22 Go.Proofs.Tryz.call22 (.code (c := Go.Proofs.Tryz.f112.body.getD .skip) Go.Proofs.Tryz.func112 rfl ck112 Go.Proofs.Tryz.call112 (.code (c := Go.Proofs.Tryz.f181.body.getD .skip) Go.Proofs.Tryz.func181 rfl ck181 Go.Proofs.Tryz.call181 (.code (c := Go.Proofs.Tryz.f182.body.getD .skip) Go.Proofs.Tryz.func182 rfl ck182 Go.Proofs.Tryz.call182 (.code (c := Go.Proofs.Tryz.f277.body.getD .skip) Go.Proofs.Tryz.func277 rfl ck277 Go.Proofs.Tryz.call277 (.code (c := Go.Proofs.Tryz.f183.body.getD .skip) Go.Proofs.Tryz.func183 rfl ck183 Go.Proofs.Tryz.call183 (.code (c := Go.Proofs.Tryz.f184.body.getD .skip) Go.Proofs.Tryz.func184 rfl ck184 Go.Proofs.Tryz.call184 (.code (c := Go.Proofs.Tryz.f336.body.getD .skip) Go.Proofs.Tryz.func336 rfl ck336 Go.Proofs.Tryz.call336 (.code (c := Go.Proofs.Tryz.f361.body.getD .skip) Go.Proofs.Tryz.func361 rfl ck361 Go.Proofs.Tryz.call361 (.code (c := Go.Proofs.Tryz.f337.body.getD .skip) Go.Proofs.Tryz.func337 rfl ck337 Go.Proofs.Tryz.call337 (.code (c := Go.Proofs.Tryz.f362.body.getD .skip) Go.Proofs.Tryz.func362 rfl ck362 Go.Proofs.Tryz.call362 (.code (c := Go.Proofs.Tryz.f338.body.getD .skip) Go.Proofs.Tryz.func338 rfl ck338 Go.Proofs.Tryz.call338 (.code (c := Go.Proofs.Tryz.f278.body.getD .skip) Go.Proofs.Tryz.func278 rfl ck278 Go.Proofs.Tryz.call278 (.code (c := Go.Proofs.Tryz.f279.body.getD .skip) Go.Proofs.Tryz.func279 rfl ck279 Go.Proofs.Tryz.call279 (.code (c := Go.Proofs.Tryz.f187.body.getD .skip) Go.Proofs.Tryz.func187 rfl ck187 Go.Proofs.Tryz.call187 (.intr (.code (c := Go.Proofs.Tryz.f280.body.getD .skip) Go.Proofs.Tryz.func280 rfl ck280 Go.Proofs.Tryz.call280 (.code (c := Go.Proofs.Tryz.f188.body.getD .skip) Go.Proofs.Tryz.func188 rfl ck188 Go.Proofs.Tryz.call188 (.code (c := Go.Proofs.Tryz.f189.body.getD .skip) Go.Proofs.Tryz.func189 rfl ck189 Go.Proofs.Tryz.call189 (.code (c := Go.Proofs.Tryz.f340.body.getD .skip) Go.Proofs.Tryz.func340 rfl ck340 Go.Proofs.Tryz.call340 (.code (c := Go.Proofs.Tryz.f281.body.getD .skip) Go.Proofs.Tryz.func281 rfl ck281 Go.Proofs.Tryz.call281 (.code (c := Go.Proofs.Tryz.f190.body.getD .skip) Go.Proofs.Tryz.func190 rfl ck190 Go.Proofs.Tryz.call190 (.code (c := Go.Proofs.Tryz.f89.body.getD .skip) Go.Proofs.Tryz.func89 rfl ck89 Go.Proofs.Tryz.call89 (.code (c := Go.Proofs.Tryz.f217.body.getD .skip) Go.Proofs.Tryz.func217 rfl ck217 Go.Proofs.Tryz.call217 (.code (c := Go.Proofs.Tryz.f119.body.getD .skip) Go.Proofs.Tryz.func119 rfl ck119 Go.Proofs.Tryz.call119 (.code (c := Go.Proofs.Tryz.f54.body.getD .skip) Go.Proofs.Tryz.func54 rfl ck54 Go.Proofs.Tryz.call54 (.code (c := Go.Proofs.Tryz.f33.body.getD .skip) Go.Proofs.Tryz.func33 rfl ck33 Go.Proofs.Tryz.call33 (.code (c := Go.Proofs.Tryz.f24.body.getD .skip) Go.Proofs.Tryz.func24 rfl ck24 Go.Proofs.Tryz.call24 (.code (c := Go.Proofs.Tryz.f194.body.getD .skip) Go.Proofs.Tryz.func194 rfl ck194 Go.Proofs.Tryz.call194 (.code (c := Go.Proofs.Tryz.f91.body.getD .skip) Go.Proofs.Tryz.func91 rfl ck91 Go.Proofs.Tryz.call91 (.code (c := Go.Proofs.Tryz.f285.body.getD .skip) Go.Proofs.Tryz.func285 rfl ck285 Go.Proofs.Tryz.call285 (.code (c := Go.Proofs.Tryz.f286.body.getD .skip) Go.Proofs.Tryz.func286 rfl ck286 Go.Proofs.Tryz.call286 (.code (c := Go.Proofs.Tryz.f195.body.getD .skip) Go.Proofs.Tryz.func195 rfl ck195 Go.Proofs.Tryz.call195 (.code (c := Go.Proofs.Tryz.f92.body.getD .skip) Go.Proofs.Tryz.func92 rfl ck92 Go.Proofs.Tryz.call92 (.code (c := Go.Proofs.Tryz.f37.body.getD .skip) Go.Proofs.Tryz.func37 rfl ck37 Go.Proofs.Tryz.call37 (.code (c := Go.Proofs.Tryz.f25.body.getD .skip) Go.Proofs.Tryz.func25 rfl ck25 Go.Proofs.Tryz.call25 (.code (c := Go.Proofs.Tryz.f14.body.getD .skip) Go.Proofs.Tryz.func14 rfl ck14 Go.Proofs.Tryz.call14 (.code (c := Go.Proofs.Tryz.f50.body.getD .skip) Go.Proofs.Tryz.func50 rfl ck50 Go.Proofs.Tryz.call50 (.code (c := Go.Proofs.Tryz.f154.body.getD .skip) Go.Proofs.Tryz.func154 rfl ck154 Go.Proofs.Tryz.call154 (.code (c := Go.Proofs.Tryz.f155.body.getD .skip) Go.Proofs.Tryz.func155 rfl ck155 Go.Proofs.Tryz.call155 (.code (c := Go.Proofs.Tryz.f78.body.getD .skip) Go.Proofs.Tryz.func78 rfl ck78 Go.Proofs.Tryz.call78 (.code (c := Go.Proofs.Tryz.f26.body.getD .skip) Go.Proofs.Tryz.func26 rfl ck26 Go.Proofs.Tryz.call26 (.code (c := Go.Proofs.Tryz.f13.body.getD .skip) Go.Proofs.Tryz.func13 rfl ck13 Go.Proofs.Tryz.call13 (.code (c := Go.Proofs.Tryz.f110.body.getD .skip) Go.Proofs.Tryz.func110 rfl ck110 Go.Proofs.Tryz.call110 (.code (c := Go.Proofs.Tryz.f161.body.getD .skip) Go.Proofs.Tryz.func161 rfl ck161 Go.Proofs.Tryz.call161 (.code (c := Go.Proofs.Tryz.f323.body.getD .skip) Go.Proofs.Tryz.func323 rfl ck323 Go.Proofs.Tryz.call323 (.code (c := Go.Proofs.Tryz.f355.body.getD .skip) Go.Proofs.Tryz.func355 rfl ck355 Go.Proofs.Tryz.call355 (.code (c := Go.Proofs.Tryz.f324.body.getD .skip) Go.Proofs.Tryz.func324 rfl ck324 Go.Proofs.Tryz.call324 (.code (c := Go.Proofs.Tryz.f325.body.getD .skip) Go.Proofs.Tryz.func325 rfl ck325 Go.Proofs.Tryz.call325 (.code (c := Go.Proofs.Tryz.f381.body.getD .skip) Go.Proofs.Tryz.func381 rfl ck381 Go.Proofs.Tryz.call381 (.code (c := Go.Proofs.Tryz.f359.body.getD .skip) Go.Proofs.Tryz.func359 rfl ck359 Go.Proofs.Tryz.call359 (.code (c := Go.Proofs.Tryz.f358.body.getD .skip) Go.Proofs.Tryz.func358 rfl ck358 Go.Proofs.Tryz.call358 (.code (c := Go.Proofs.Tryz.f326.body.getD .skip) Go.Proofs.Tryz.func326 rfl ck326 Go.Proofs.Tryz.call326 (.code (c := Go.Proofs.Tryz.f327.body.getD .skip) Go.Proofs.Tryz.func327 rfl ck327 Go.Proofs.Tryz.call327 (.code (c := Go.Proofs.Tryz.f328.body.getD .skip) Go.Proofs.Tryz.func328 rfl ck328 Go.Proofs.Tryz.call328 (.code (c := Go.Proofs.Tryz.f329.body.getD .skip) Go.Proofs.Tryz.func329 rfl ck329 Go.Proofs.Tryz.call329 (.code (c := Go.Proofs.Tryz.f330.body.getD .skip) Go.Proofs.Tryz.func330 rfl ck330 Go.Proofs.Tryz.call330 (.code (c := Go.Proofs.Tryz.f272.body.getD .skip) Go.Proofs.Tryz.func272 rfl ck272 Go.Proofs.Tryz.call272 (.code (c := Go.Proofs.Tryz.f175.body.getD .skip) Go.Proofs.Tryz.func175 rfl ck175 Go.Proofs.Tryz.call175 (.code (c := Go.Proofs.Tryz.f176.body.getD .skip) Go.Proofs.Tryz.func176 rfl ck176 Go.Proofs.Tryz.call176 (.code (c := Go.Proofs.Tryz.f166.body.getD .skip) Go.Proofs.Tryz.func166 rfl ck166 Go.Proofs.Tryz.call166 (.code (c := Go.Proofs.Tryz.f162.body.getD .skip) Go.Proofs.Tryz.func162 rfl ck162 Go.Proofs.Tryz.call162 (.code (c := Go.Proofs.Tryz.f80.body.getD .skip) Go.Proofs.Tryz.func80 rfl ck80 Go.Proofs.Tryz.call80 (.code (c := Go.Proofs.Tryz.f27.body.getD .skip) Go.Proofs.Tryz.func27 rfl ck27 Go.Proofs.Tryz.call27 (.code (c := Go.Proofs.Tryz.f163.body.getD .skip) Go.Proofs.Tryz.func163 rfl ck163 Go.Proofs.Tryz.call163 (.code (c := Go.Proofs.Tryz.f164.body.getD .skip) Go.Proofs.Tryz.func164 rfl ck164 Go.Proofs.Tryz.call164 (.code (c := Go.Proofs.Tryz.f81.body.getD .skip) Go.Proofs.Tryz.func81 rfl ck81 Go.Proofs.Tryz.call81 (.code (c := Go.Proofs.Tryz.f82.body.getD .skip) Go.Proofs.Tryz.func82 rfl ck82 Go.Proofs.Tryz.call82 (.code (c := Go.Proofs.Tryz.f83.body.getD .skip) Go.Proofs.Tryz.func83 rfl ck83 Go.Proofs.Tryz.call83 (.code (c := Go.Proofs.Tryz.f151.body.getD .skip) Go.Proofs.Tryz.func151 rfl ck151 Go.Proofs.Tryz.call151 (.code (c := Go.Proofs.Tryz.f169.body.getD .skip) Go.Proofs.Tryz.func169 rfl ck169 Go.Proofs.Tryz.call169 (.code (c := Go.Proofs.Tryz.f315.body.getD .skip) Go.Proofs.Tryz.func315 rfl ck315 Go.Proofs.Tryz.call315 (.code (c := Go.Proofs.Tryz.f320.body.getD .skip) Go.Proofs.Tryz.func320 rfl ck320 Go.Proofs.Tryz.call320 (.code (c := Go.Proofs.Tryz.f268.body.getD .skip) Go.Proofs.Tryz.func268 rfl ck268 Go.Proofs.Tryz.call268 (.code (c := Go.Proofs.Tryz.f269.body.getD .skip) Go.Proofs.Tryz.func269 rfl ck269 Go.Proofs.Tryz.call269 (.code (c := Go.Proofs.Tryz.f170.body.getD .skip) Go.Proofs.Tryz.func170 rfl ck170 Go.Proofs.Tryz.call170 (.code (c := Go.Proofs.Tryz.f84.body.getD .skip) Go.Proofs.Tryz.func84 rfl ck84 Go.Proofs.Tryz.call84 (.code (c := Go.Proofs.Tryz.f171.body.getD .skip) Go.Proofs.Tryz.func171 rfl ck171 Go.Proofs.Tryz.call171 (.code (c := Go.Proofs.Tryz.f173.body.getD .skip) Go.Proofs.Tryz.func173 rfl ck173 Go.Proofs.Tryz.call173 (.code (c := Go.Proofs.Tryz.f177.body.getD .skip) Go.Proofs.Tryz.func177 rfl ck177 Go.Proofs.Tryz.call177 (.code (c := Go.Proofs.Tryz.f85.body.getD .skip) Go.Proofs.Tryz.func85 rfl ck85 Go.Proofs.Tryz.call85 (.code (c := Go.Proofs.Tryz.f29.body.getD .skip) Go.Proofs.Tryz.func29 rfl ck29 Go.Proofs.Tryz.call29 (.code (c := Go.Proofs.Tryz.f28.body.getD .skip) Go.Proofs.Tryz.func28 rfl ck28 Go.Proofs.Tryz.call28 (.code (c := Go.Proofs.Tryz.f87.body.getD .skip) Go.Proofs.Tryz.func87 rfl ck87 Go.Proofs.Tryz.call87 (.code (c := Go.Proofs.Tryz.f30.body.getD .skip) Go.Proofs.Tryz.func30 rfl ck30 Go.Proofs.Tryz.call30 (.code (c := Go.Proofs.Tryz.f31.body.getD .skip) Go.Proofs.Tryz.func31 rfl ck31 Go.Proofs.Tryz.call31 (.code (c := Go.Proofs.Tryz.f5.body.getD .skip) Go.Proofs.Tryz.func5 rfl ck5 Go.Proofs.Tryz.call5 (.nil)))))))))))))))))))))))))))))))))))))))))))))))))))))))))))))))))))))))))))))))))))))))))))))))))))))))))))))))))))))))))))))))))))))))))))))))))))))))))))))))))))))))))))))))))))))))))))))))))))))))))))))))))))))))))))))))))))))))))))))))))))))))))))))))))))))))))))))))))))))))))))))))))))))))))))))))))))))))))))))))))))))))))
theorem fnsOk : FnsOk Go.Proofs.Tryz.prog fns := fnsOk_of fnAll (by intro q hq; exact of_blt (l := fnl) (by kernel_rfl) q hq)
end Go.XS.Tryz
/- The contracts of a run. -/
namespace Go.XS.Tryz
open Go Go.TS
theorem ix216 : IxR1 iSectors (Go.TS.Tryz.c216 (sector_Disk_Sectors Go.TS.Tryz.tau)) := ⟨iSectors_ch, fun γ φ ags H h vs q K hx hR hv hK => iSectors_R (τ := Go.TS.Tryz.tau) (fun d h K hh => hh) γ φ ags H h vs q K hx hR hv hK⟩
theorem ix213 : IxR1 iRdWord (Go.TS.Tryz.c213 (octet_Reader_Word Go.TS.Tryz.tau)) := ⟨iRdWord_ch, fun γ φ ags H h vs q K hx hR hv hK => iRdWord_R (τ := Go.TS.Tryz.tau) (fun d m h K hh => hh) γ φ ags H h vs q K hx hR hv hK⟩
theorem ix130 : IxR1 iWord (Go.TS.Tryz.c130 (octet_Word Go.TS.Tryz.tau)) := ⟨iWord_ch, fun γ φ ags H h vs q K hx hR hv hK => iWord_R (τ := Go.TS.Tryz.tau) (fun s n m h K hh => hh) γ φ ags H h vs q K hx hR hv hK⟩
theorem ix344 : IxR1 iParts (Go.TS.Tryz.c344 (crc_Parts Go.TS.Tryz.tau)) := ⟨iParts_ch, fun γ φ ags H h vs q K hx hR hv hK => iParts_R (τ := Go.TS.Tryz.tau) (fun s h K hh => hh) γ φ ags H h vs q K hx hR hv hK⟩
theorem ix316 : IxR1 (iZeros 264) (Go.TS.Tryz.c316 (slices_IndexFunc_byte_byte Go.TS.Tryz.tau)) := ⟨iZeros_ch 264, fun γ φ ags H h vs q K hx hR hv hK => iZeros_R (τ := Go.TS.Tryz.tau) (fun s h K hh => hh) γ φ ags H h vs q K hx hR hv hK⟩
theorem ix262 : IxR1 iBRead (Go.TS.Tryz.c262 (bucket_Read Go.TS.Tryz.tau)) := ⟨iBRead_ch, fun γ φ ags H h vs q K hx hR hv hK => iBRead_R (τ := Go.TS.Tryz.tau) (fun s h K hh => hh) γ φ ags H h vs q K hx hR hv hK⟩
theorem ix287 : IxR1 iNoughts (Go.TS.Tryz.c287 (slots_noughts Go.TS.Tryz.tau)) := ⟨iNoughts_ch, fun γ φ ags H h vs q K hx hR hv hK => iNoughts_R (τ := Go.TS.Tryz.tau) (fun s h K hh => hh) γ φ ags H h vs q K hx hR hv hK⟩
theorem ix276 : IxR1 iInsert (Go.TS.Tryz.c276 (slices_Insert_int_int Go.TS.Tryz.tau)) := ⟨iInsert_ch, fun γ φ ags H h vs q K hx hR hv hK => iInsert_R (τ := Go.TS.Tryz.tau) (fun s x n h K hh => hh) γ φ ags H h vs q K hx hR hv hK⟩
theorem ix226 : IxR1 iDelete (Go.TS.Tryz.c226 (slices_Delete_int_int Go.TS.Tryz.tau)) := ⟨iDelete_ch, fun γ φ ags H h vs q K hx hR hv hK => iDelete_R (τ := Go.TS.Tryz.tau) (fun s n m h K hh => hh) γ φ ags H h vs q K hx hR hv hK⟩
theorem ix241 : IxR1 iInsertR (Go.TS.Tryz.c241 (slices_Insert_api_Ref_api_Ref Go.TS.Tryz.tau)) := ⟨iInsertR_ch, fun γ φ ags H h vs q K hx hR hv hK => iInsertR_R (τ := Go.TS.Tryz.tau) (fun s x n h K hh => hh) γ φ ags H h vs q K hx hR hv hK⟩
theorem ix249 : IxR1 iDelR (Go.TS.Tryz.c249 (slices_Delete_api_Ref_api_Ref Go.TS.Tryz.tau)) := ⟨iDelR_ch, fun γ φ ags H h vs q K hx hR hv hK => iDelR_R (τ := Go.TS.Tryz.tau) (fun s n m h K hh => hh) γ φ ags H h vs q K hx hR hv hK⟩
theorem ix191 : IxR1 iFlush (Go.TS.Tryz.c191 (sector_Disk_Flush Go.TS.Tryz.tau)) := ⟨iFlush_ch, fun γ φ ags H h vs q K hx hR hv hK => iFlush_R (τ := Go.TS.Tryz.tau) (fun d h K hh => hh) γ φ ags H h vs q K hx hR hv hK⟩
def ixl : List (Nat × CallP) := [(216, Go.TS.Tryz.c216 (sector_Disk_Sectors Go.TS.Tryz.tau)), (213, Go.TS.Tryz.c213 (octet_Reader_Word Go.TS.Tryz.tau)), (130, Go.TS.Tryz.c130 (octet_Word Go.TS.Tryz.tau)), (344, Go.TS.Tryz.c344 (crc_Parts Go.TS.Tryz.tau)), (316, Go.TS.Tryz.c316 (slices_IndexFunc_byte_byte Go.TS.Tryz.tau)), (262, Go.TS.Tryz.c262 (bucket_Read Go.TS.Tryz.tau)), (287, Go.TS.Tryz.c287 (slots_noughts Go.TS.Tryz.tau)), (276, Go.TS.Tryz.c276 (slices_Insert_int_int Go.TS.Tryz.tau)), (226, Go.TS.Tryz.c226 (slices_Delete_int_int Go.TS.Tryz.tau)), (241, Go.TS.Tryz.c241 (slices_Insert_api_Ref_api_Ref Go.TS.Tryz.tau)), (249, Go.TS.Tryz.c249 (slices_Delete_api_Ref_api_Ref Go.TS.Tryz.tau)), (191, Go.TS.Tryz.c191 (sector_Disk_Flush Go.TS.Tryz.tau))]
theorem ixOk : IxOk Go.Proofs.Tryz.prog (ixGet ixl) := ixOk_of (.cons Go.TS.Tryz.s216 (.cons Go.TS.Tryz.s213 (.cons Go.TS.Tryz.s130 (.cons Go.TS.Tryz.s344 (.cons Go.TS.Tryz.s316 (.cons Go.TS.Tryz.s262 (.cons Go.TS.Tryz.s287 (.cons Go.TS.Tryz.s276 (.cons Go.TS.Tryz.s226 (.cons Go.TS.Tryz.s241 (.cons Go.TS.Tryz.s249 (.cons Go.TS.Tryz.s191 (.nil)))))))))))))
set_option maxRecDepth 100000 in
theorem ixAll : IxAll (ixGet ixl) fnl := .code (.code (.code (.intr (p := Go.TS.Tryz.c216 (sector_Disk_Sectors Go.TS.Tryz.tau)) rfl ix216 (.code (.code (.code (.code (.code (.code (.code (.code (.code (.code (.code (.code (.code (.code (.code (.intr (p := Go.TS.Tryz.c213 (octet_Reader_Word Go.TS.Tryz.tau)) rfl ix213 (.code (.code (.code (.code (.code (.code (.code (.code (.code (.code (.code (.code (.code (.code (.code (.code (.code (.code (.code (.code (.code (.code (.code (.intr (p := Go.TS.Tryz.c130 (octet_Word Go.TS.Tryz.tau)) rfl ix130 (.intr (p := Go.TS.Tryz.c344 (crc_Parts Go.TS.Tryz.tau)) rfl ix344 (.code (.code (.code (.code (.code (.code (.intr (p := Go.TS.Tryz.c316 (slices_IndexFunc_byte_byte Go.TS.Tryz.tau)) rfl ix316 (.code (.code (.code (.code (.code (.code (.code (.code (.code (.code (.code (.intr (p := Go.TS.Tryz.c262 (bucket_Read Go.TS.Tryz.tau)) rfl ix262 (.code (.code (.code (.code (.code (.code (.code (.code (.code (.code (.code (.code (.code (.code (.code (.code (.code (.code (.code (.code (.code (.code (.code (.code (.code (.code (.code (.code (.code (.code (.code (.code (.code (.code (.intr (p := Go.TS.Tryz.c287 (slots_noughts Go.TS.Tryz.tau)) rfl ix287 (.code (.code (.code (.code (.code (.code (.code (.code (.code (.code (.code (.code (.code (.code (.code (.code (.code (.code (.code (.code (.code (.code (.code (.code (.code (.code (.code (.code (.code (.code (.code (.code (.code (.code (.code (.code (.code (.code (.code (.code (.code (.code (.code (.code (.code (.intr (p := Go.TS.Tryz.c276 (slices_Insert_int_int Go.TS.Tryz.tau)) rfl ix276 (.code (.code (.code (.intr (p := Go.TS.Tryz.c226 (slices_Delete_int_int Go.TS.Tryz.tau)) rfl ix226 (.code (.code (.code (.code (.code (.code (.code (.code (.code (.code (.code (.code (.code (.code (.code (.code (.code (.code (.code (.code (.code (.code (.code (.code (.code (.code (.code (.code (.code (.code (.code (.code (.code (.code (.code (.intr (p := Go.TS.Tryz.c241 (slices_Insert_api_Ref_api_Ref Go.TS.Tryz.tau)) rfl ix241 (.code (.code (.code (.code (.code (.code (.code (.code (.code (.code (.intr (p := Go.TS.Tryz.c249 (slices_Delete_api_Ref_api_Ref Go.TS.Tryz.tau)) rfl ix249 (.code (.code (.code (.code (.code (.code (.code (.code (.code (.code (.code (.code (.code (.code (.code (.code (.code (.code (.code (.code (.code (.code (.code (.code (.code (.code (.code (.code (.code (.code (.code (.code (.code (.code (.code (.code (.code (.code (.code (.code (.code (.code (.code (.code (.code (.code (.code (.code (.code (.code (.code (.code (.code (.code (.code (.code (.code (.code (.code (.code (.code (.intr (p := Go.TS.Tryz.c191 (sector_Disk_Flush Go.TS.Tryz.tau)) rfl ix191 (.code (.code (.code (.code (.code (.code (.code (.code (.code (.code (.code (.code (.code (.code (.code (.code (.code (.code (.code (.code (.code (.code (.code (.code (.code (.code (.code (.code (.code (.code (.code (.code (.code (.code (.code (.code (.code (.code (.code (.code (.code (.code (.code (.code (.code (.code (.code (.code (.code (.code (.code (.code (.code (.code (.code (.code (.code (.code (.code (.code (.code (.code (.code (.code (.code (.code (.code (.code (.code (.code (.code (.nil)))))))))))))))))))))))))))))))))))))))))))))))))))))))))))))))))))))))))))))))))))))))))))))))))))))))))))))))))))))))))))))))))))))))))))))))))))))))))))))))))))))))))))))))))))))))))))))))))))))))))))))))))))))))))))))))))))))))))))))))))))))))))))))))))))))))))))))))))))))))))))))))))))))))))))))))))))))))))))))))))))))))))
theorem ixR : IxR fns (ixGet ixl) := ixR_of ixAll (by intro q hq; exact of_blt (l := fnl) (by kernel_rfl) q hq)
end Go.XS.Tryz
/- The tables of a run: facts of the types. -/
namespace Go.XS.Tryz
open Go Go.TS
set_option maxRecDepth 100000
theorem hm : Go.Proofs.Tryz.prog.follows .mixedOrders = true := by kernel_rfl
theorem ty3 : TyOk Go.Proofs.Tryz.prog 3 ti3 := ⟨Go.Proofs.Tryz.underlying3, by kernel_rfl, by kernel_rfl, trivial⟩
theorem ty4 : TyOk Go.Proofs.Tryz.prog 4 ti4 := ⟨Go.Proofs.Tryz.underlying4, by kernel_rfl, by kernel_rfl, trivial⟩
theorem ty5 : TyOk Go.Proofs.Tryz.prog 5 ti5 := ⟨Go.Proofs.Tryz.underlying5, by kernel_rfl, by kernel_rfl, trivial⟩
theorem ty9 : TyOk Go.Proofs.Tryz.prog 9 ti9 := ⟨Go.Proofs.Tryz.underlying9, by kernel_rfl, by kernel_rfl, trivial⟩
theorem ty22 : TyOk Go.Proofs.Tryz.prog 22 ti22 := ⟨Go.Proofs.Tryz.underlying22, by kernel_rfl, by kernel_rfl, trivial⟩
theorem ty25 : TyOk Go.Proofs.Tryz.prog 25 ti25 := ⟨Go.Proofs.Tryz.underlying25, by kernel_rfl, by kernel_rfl, trivial⟩
theorem ty27 : TyOk Go.Proofs.Tryz.prog 27 ti27 := ⟨Go.Proofs.Tryz.underlying27, by kernel_rfl, by kernel_rfl, trivial⟩
theorem ty28 : TyOk Go.Proofs.Tryz.prog 28 ti28 := ⟨Go.Proofs.Tryz.underlying28, by kernel_rfl, by kernel_rfl, trivial⟩
theorem ty30 : TyOk Go.Proofs.Tryz.prog 30 ti30 := ⟨Go.Proofs.Tryz.underlying30, by kernel_rfl, by kernel_rfl, ⟨by kernel_rfl, by kernel_rfl⟩⟩
theorem ty31 : TyOk Go.Proofs.Tryz.prog 31 ti31 := ⟨Go.Proofs.Tryz.underlying31, by kernel_rfl, by kernel_rfl, trivial⟩
theorem ty32 : TyOk Go.Proofs.Tryz.prog 32 ti32 := ⟨Go.Proofs.Tryz.underlying32, by kernel_rfl, by kernel_rfl, trivial⟩
theorem ty34 : TyOk Go.Proofs.Tryz.prog 34 ti34 := ⟨Go.Proofs.Tryz.underlying34, by kernel_rfl, by kernel_rfl, ⟨by kernel_rfl, by kernel_rfl⟩⟩
theorem ty36 : TyOk Go.Proofs.Tryz.prog 36 ti36 := ⟨Go.Proofs.Tryz.underlying36, by kernel_rfl, by kernel_rfl, ⟨by kernel_rfl, by kernel_rfl⟩⟩
theorem ty42 : TyOk Go.Proofs.Tryz.prog 42 ti42 := ⟨Go.Proofs.Tryz.underlying42, by kernel_rfl, by kernel_rfl, ⟨by kernel_rfl, by kernel_rfl⟩⟩
theorem ty46 : TyOk Go.Proofs.Tryz.prog 46 ti46 := ⟨Go.Proofs.Tryz.underlying46, by kernel_rfl, by kernel_rfl, trivial⟩
theorem ty49 : TyOk Go.Proofs.Tryz.prog 49 ti49 := ⟨Go.Proofs.Tryz.underlying49, by kernel_rfl, by kernel_rfl, trivial⟩
theorem ty54 : TyOk Go.Proofs.Tryz.prog 54 ti54 := ⟨Go.Proofs.Tryz.underlying54, by kernel_rfl, by kernel_rfl, ⟨by kernel_rfl, by kernel_rfl⟩⟩
theorem ty61 : TyOk Go.Proofs.Tryz.prog 61 ti61 := ⟨Go.Proofs.Tryz.underlying61, by kernel_rfl, by kernel_rfl, trivial⟩
theorem ty64 : TyOk Go.Proofs.Tryz.prog 64 ti64 := ⟨Go.Proofs.Tryz.underlying64, by kernel_rfl, by kernel_rfl, trivial⟩
theorem ty67 : TyOk Go.Proofs.Tryz.prog 67 ti67 := ⟨Go.Proofs.Tryz.underlying67, by kernel_rfl, by kernel_rfl, trivial⟩
theorem ty68 : TyOk Go.Proofs.Tryz.prog 68 ti68 := ⟨Go.Proofs.Tryz.underlying68, by kernel_rfl, by kernel_rfl, trivial⟩
theorem ty71 : TyOk Go.Proofs.Tryz.prog 71 ti71 := ⟨Go.Proofs.Tryz.underlying71, by kernel_rfl, by kernel_rfl, trivial⟩
theorem ty76 : TyOk Go.Proofs.Tryz.prog 76 ti76 := ⟨Go.Proofs.Tryz.underlying76, by kernel_rfl, by kernel_rfl, trivial⟩
theorem ty80 : TyOk Go.Proofs.Tryz.prog 80 ti80 := ⟨Go.Proofs.Tryz.underlying80, by kernel_rfl, by kernel_rfl, ⟨by kernel_rfl, by kernel_rfl⟩⟩
theorem ty86 : TyOk Go.Proofs.Tryz.prog 86 ti86 := ⟨Go.Proofs.Tryz.underlying86, by kernel_rfl, by kernel_rfl, trivial⟩
theorem ty91 : TyOk Go.Proofs.Tryz.prog 91 ti91 := ⟨Go.Proofs.Tryz.underlying91, by kernel_rfl, by kernel_rfl, ⟨by kernel_rfl, by kernel_rfl⟩⟩
theorem ty94 : TyOk Go.Proofs.Tryz.prog 94 ti94 := ⟨Go.Proofs.Tryz.underlying94, by kernel_rfl, by kernel_rfl, trivial⟩
theorem ty101 : TyOk Go.Proofs.Tryz.prog 101 ti101 := ⟨Go.Proofs.Tryz.underlying101, by kernel_rfl, by kernel_rfl, trivial⟩
theorem ty110 : TyOk Go.Proofs.Tryz.prog 110 ti110 := ⟨Go.Proofs.Tryz.underlying110, by kernel_rfl, by kernel_rfl, ⟨by kernel_rfl, by kernel_rfl⟩⟩
theorem ty112 : TyOk Go.Proofs.Tryz.prog 112 ti112 := ⟨Go.Proofs.Tryz.underlying112, by kernel_rfl, by kernel_rfl, trivial⟩
theorem ty114 : TyOk Go.Proofs.Tryz.prog 114 ti114 := ⟨Go.Proofs.Tryz.underlying114, by kernel_rfl, by kernel_rfl, ⟨by kernel_rfl, by kernel_rfl⟩⟩
theorem ty126 : TyOk Go.Proofs.Tryz.prog 126 ti126 := ⟨Go.Proofs.Tryz.underlying126, by kernel_rfl, by kernel_rfl, trivial⟩
theorem ty129 : TyOk Go.Proofs.Tryz.prog 129 ti129 := ⟨Go.Proofs.Tryz.underlying129, by kernel_rfl, by kernel_rfl, ⟨by kernel_rfl, by kernel_rfl⟩⟩
theorem ty135 : TyOk Go.Proofs.Tryz.prog 135 ti135 := ⟨Go.Proofs.Tryz.underlying135, by kernel_rfl, by kernel_rfl, ⟨by kernel_rfl, by kernel_rfl⟩⟩
theorem ty143 : TyOk Go.Proofs.Tryz.prog 143 ti143 := ⟨Go.Proofs.Tryz.underlying143, by kernel_rfl, by kernel_rfl, trivial⟩
theorem ty146 : TyOk Go.Proofs.Tryz.prog 146 ti146 := ⟨Go.Proofs.Tryz.underlying146, by kernel_rfl, by kernel_rfl, trivial⟩
theorem ty148 : TyOk Go.Proofs.Tryz.prog 148 ti148 := ⟨Go.Proofs.Tryz.underlying148, by kernel_rfl, by kernel_rfl, ⟨by kernel_rfl, by kernel_rfl⟩⟩
theorem ty150 : TyOk Go.Proofs.Tryz.prog 150 ti150 := ⟨Go.Proofs.Tryz.underlying150, by kernel_rfl, by kernel_rfl, ⟨by kernel_rfl, by kernel_rfl⟩⟩
theorem ty154 : TyOk Go.Proofs.Tryz.prog 154 ti154 := ⟨Go.Proofs.Tryz.underlying154, by kernel_rfl, by kernel_rfl, trivial⟩
theorem ty156 : TyOk Go.Proofs.Tryz.prog 156 ti156 := ⟨Go.Proofs.Tryz.underlying156, by kernel_rfl, by kernel_rfl, trivial⟩
theorem ty160 : TyOk Go.Proofs.Tryz.prog 160 ti160 := ⟨Go.Proofs.Tryz.underlying160, by kernel_rfl, by kernel_rfl, ⟨by kernel_rfl, by kernel_rfl⟩⟩
theorem ty161 : TyOk Go.Proofs.Tryz.prog 161 ti161 := ⟨Go.Proofs.Tryz.underlying161, by kernel_rfl, by kernel_rfl, trivial⟩
theorem ty173 : TyOk Go.Proofs.Tryz.prog 173 ti173 := ⟨Go.Proofs.Tryz.underlying173, by kernel_rfl, by kernel_rfl, trivial⟩
theorem ty177 : TyOk Go.Proofs.Tryz.prog 177 ti177 := ⟨Go.Proofs.Tryz.underlying177, by kernel_rfl, by kernel_rfl, ⟨by kernel_rfl, by kernel_rfl⟩⟩
theorem ty186 : TyOk Go.Proofs.Tryz.prog 186 ti186 := ⟨Go.Proofs.Tryz.underlying186, by kernel_rfl, by kernel_rfl, trivial⟩
theorem ty195 : TyOk Go.Proofs.Tryz.prog 195 ti195 := ⟨Go.Proofs.Tryz.underlying195, by kernel_rfl, by kernel_rfl, ⟨by kernel_rfl, by kernel_rfl⟩⟩
theorem ty197 : TyOk Go.Proofs.Tryz.prog 197 ti197 := ⟨Go.Proofs.Tryz.underlying197, by kernel_rfl, by kernel_rfl, ⟨by kernel_rfl, by kernel_rfl⟩⟩
theorem ty198 : TyOk Go.Proofs.Tryz.prog 198 ti198 := ⟨Go.Proofs.Tryz.underlying198, by kernel_rfl, by kernel_rfl, trivial⟩
theorem ty200 : TyOk Go.Proofs.Tryz.prog 200 ti200 := ⟨Go.Proofs.Tryz.underlying200, by kernel_rfl, by kernel_rfl, ⟨by kernel_rfl, by kernel_rfl⟩⟩
theorem ty203 : TyOk Go.Proofs.Tryz.prog 203 ti203 := ⟨Go.Proofs.Tryz.underlying203, by kernel_rfl, by kernel_rfl, trivial⟩
theorem ty219 : TyOk Go.Proofs.Tryz.prog 219 ti219 := ⟨Go.Proofs.Tryz.underlying219, by kernel_rfl, by kernel_rfl, trivial⟩
theorem ty224 : TyOk Go.Proofs.Tryz.prog 224 ti224 := ⟨Go.Proofs.Tryz.underlying224, by kernel_rfl, by kernel_rfl, ⟨by kernel_rfl, by kernel_rfl⟩⟩
theorem ty225 : TyOk Go.Proofs.Tryz.prog 225 ti225 := ⟨Go.Proofs.Tryz.underlying225, by kernel_rfl, by kernel_rfl, trivial⟩
theorem ty227 : TyOk Go.Proofs.Tryz.prog 227 ti227 := ⟨Go.Proofs.Tryz.underlying227, by kernel_rfl, by kernel_rfl, ⟨by kernel_rfl, by kernel_rfl⟩⟩
theorem ty231 : TyOk Go.Proofs.Tryz.prog 231 ti231 := ⟨Go.Proofs.Tryz.underlying231, by kernel_rfl, by kernel_rfl, trivial⟩
theorem ty233 : TyOk Go.Proofs.Tryz.prog 233 ti233 := ⟨Go.Proofs.Tryz.underlying233, by kernel_rfl, by kernel_rfl, ⟨by kernel_rfl, by kernel_rfl⟩⟩
theorem ty253 : TyOk Go.Proofs.Tryz.prog 253 ti253 := ⟨Go.Proofs.Tryz.underlying253, by kernel_rfl, by kernel_rfl, trivial⟩
theorem ty260 : TyOk Go.Proofs.Tryz.prog 260 ti260 := ⟨Go.Proofs.Tryz.underlying260, by kernel_rfl, by kernel_rfl, trivial⟩
theorem ty265 : TyOk Go.Proofs.Tryz.prog 265 ti265 := ⟨Go.Proofs.Tryz.underlying265, by kernel_rfl, by kernel_rfl, trivial⟩
theorem ty274 : TyOk Go.Proofs.Tryz.prog 274 ti274 := ⟨Go.Proofs.Tryz.underlying274, by kernel_rfl, by kernel_rfl, trivial⟩
theorem ty275 : TyOk Go.Proofs.Tryz.prog 275 ti275 := ⟨Go.Proofs.Tryz.underlying275, by kernel_rfl, by kernel_rfl, trivial⟩
theorem ty277 : TyOk Go.Proofs.Tryz.prog 277 ti277 := ⟨Go.Proofs.Tryz.underlying277, by kernel_rfl, by kernel_rfl, ⟨by kernel_rfl, by kernel_rfl⟩⟩
theorem ty281 : TyOk Go.Proofs.Tryz.prog 281 ti281 := ⟨Go.Proofs.Tryz.underlying281, by kernel_rfl, by kernel_rfl, ⟨by kernel_rfl, by kernel_rfl⟩⟩
theorem ty291 : TyOk Go.Proofs.Tryz.prog 291 ti291 := ⟨Go.Proofs.Tryz.underlying291, by kernel_rfl, by kernel_rfl, trivial⟩
theorem ty293 : TyOk Go.Proofs.Tryz.prog 293 ti293 := ⟨Go.Proofs.Tryz.underlying293, by kernel_rfl, by kernel_rfl, ⟨by kernel_rfl, by kernel_rfl⟩⟩
theorem ty295 : TyOk Go.Proofs.Tryz.prog 295 ti295 := ⟨Go.Proofs.Tryz.underlying295, by kernel_rfl, by kernel_rfl, trivial⟩
theorem ty297 : TyOk Go.Proofs.Tryz.prog 297 ti297 := ⟨Go.Proofs.Tryz.underlying297, by kernel_rfl, by kernel_rfl, ⟨by kernel_rfl, by kernel_rfl⟩⟩
theorem ty301 : TyOk Go.Proofs.Tryz.prog 301 ti301 := ⟨Go.Proofs.Tryz.underlying301, by kernel_rfl, by kernel_rfl, trivial⟩
theorem ty307 : TyOk Go.Proofs.Tryz.prog 307 ti307 := ⟨Go.Proofs.Tryz.underlying307, by kernel_rfl, by kernel_rfl, trivial⟩
theorem ty311 : TyOk Go.Proofs.Tryz.prog 311 ti311 := ⟨Go.Proofs.Tryz.underlying311, by kernel_rfl, by kernel_rfl, ⟨by kernel_rfl, by kernel_rfl⟩⟩
theorem ty313 : TyOk Go.Proofs.Tryz.prog 313 ti313 := ⟨Go.Proofs.Tryz.underlying313, by kernel_rfl, by kernel_rfl, ⟨by kernel_rfl, by kernel_rfl⟩⟩
theorem ty327 : TyOk Go.Proofs.Tryz.prog 327 ti327 := ⟨Go.Proofs.Tryz.underlying327, by kernel_rfl, by kernel_rfl, trivial⟩
theorem ty335 : TyOk Go.Proofs.Tryz.prog 335 ti335 := ⟨Go.Proofs.Tryz.underlying335, by kernel_rfl, by kernel_rfl, trivial⟩
theorem ty352 : TyOk Go.Proofs.Tryz.prog 352 ti352 := ⟨Go.Proofs.Tryz.underlying352, by kernel_rfl, by kernel_rfl, ⟨by kernel_rfl, by kernel_rfl⟩⟩
theorem ty359 : TyOk Go.Proofs.Tryz.prog 359 ti359 := ⟨Go.Proofs.Tryz.underlying359, by kernel_rfl, by kernel_rfl, trivial⟩
theorem ty366 : TyOk Go.Proofs.Tryz.prog 366 ti366 := ⟨Go.Proofs.Tryz.underlying366, by kernel_rfl, by kernel_rfl, trivial⟩
theorem ty375 : TyOk Go.Proofs.Tryz.prog 375 ti375 := ⟨Go.Proofs.Tryz.underlying375, by kernel_rfl, by kernel_rfl, trivial⟩
theorem ty377 : TyOk Go.Proofs.Tryz.prog 377 ti377 := ⟨Go.Proofs.Tryz.underlying377, by kernel_rfl, by kernel_rfl, trivial⟩
theorem ty379 : TyOk Go.Proofs.Tryz.prog 379 ti379 := ⟨Go.Proofs.Tryz.underlying379, by kernel_rfl, by kernel_rfl, ⟨by kernel_rfl, by kernel_rfl⟩⟩
theorem ty382 : TyOk Go.Proofs.Tryz.prog 382 ti382 := ⟨Go.Proofs.Tryz.underlying382, by kernel_rfl, by kernel_rfl, trivial⟩
theorem ty384 : TyOk Go.Proofs.Tryz.prog 384 ti384 := ⟨Go.Proofs.Tryz.underlying384, by kernel_rfl, by kernel_rfl, trivial⟩
theorem ty385 : TyOk Go.Proofs.Tryz.prog 385 ti385 := ⟨Go.Proofs.Tryz.underlying385, by kernel_rfl, by kernel_rfl, ⟨by kernel_rfl, by kernel_rfl⟩⟩
theorem ty411 : TyOk Go.Proofs.Tryz.prog 411 ti411 := ⟨Go.Proofs.Tryz.underlying411, by kernel_rfl, by kernel_rfl, ⟨by kernel_rfl, by kernel_rfl⟩⟩
theorem ty415 : TyOk Go.Proofs.Tryz.prog 415 ti415 := ⟨Go.Proofs.Tryz.underlying415, by kernel_rfl, by kernel_rfl, trivial⟩
theorem ty426 : TyOk Go.Proofs.Tryz.prog 426 ti426 := ⟨Go.Proofs.Tryz.underlying426, by kernel_rfl, by kernel_rfl, trivial⟩
theorem ty430 : TyOk Go.Proofs.Tryz.prog 430 ti430 := ⟨Go.Proofs.Tryz.underlying430, by kernel_rfl, by kernel_rfl, trivial⟩
theorem ty432 : TyOk Go.Proofs.Tryz.prog 432 ti432 := ⟨Go.Proofs.Tryz.underlying432, by kernel_rfl, by kernel_rfl, trivial⟩
theorem ty439 : TyOk Go.Proofs.Tryz.prog 439 ti439 := ⟨Go.Proofs.Tryz.underlying439, by kernel_rfl, by kernel_rfl, trivial⟩
theorem ty443 : TyOk Go.Proofs.Tryz.prog 443 ti443 := ⟨Go.Proofs.Tryz.underlying443, by kernel_rfl, by kernel_rfl, trivial⟩
theorem ty446 : TyOk Go.Proofs.Tryz.prog 446 ti446 := ⟨Go.Proofs.Tryz.underlying446, by kernel_rfl, by kernel_rfl, trivial⟩
theorem tysOk : TysOk Go.Proofs.Tryz.prog tys := tysOk_ofT (.cons ty3 (.cons ty4 (.cons ty5 (.cons ty9 (.cons ty22 (.cons ty25 (.cons ty27 (.cons ty28 (.cons ty30 (.cons ty31 (.cons ty32 (.cons ty34 (.cons ty36 (.cons ty42 (.cons ty46 (.cons ty49 (.cons ty54 (.cons ty61 (.cons ty64 (.cons ty67 (.cons ty68 (.cons ty71 (.cons ty76 (.cons ty80 (.cons ty86 (.cons ty91 (.cons ty94 (.cons ty101 (.cons ty110 (.cons ty112 (.cons ty114 (.cons ty126 (.cons ty129 (.cons ty135 (.cons ty143 (.cons ty146 (.cons ty148 (.cons ty150 (.cons ty154 (.cons ty156 (.cons ty160 (.cons ty161 (.cons ty173 (.cons ty177 (.cons ty186 (.cons ty195 (.cons ty197 (.cons ty198 (.cons ty200 (.cons ty203 (.cons ty219 (.cons ty224 (.cons ty225 (.cons ty227 (.cons ty231 (.cons ty233 (.cons ty253 (.cons ty260 (.cons ty265 (.cons ty274 (.cons ty275 (.cons ty277 (.cons ty281 (.cons ty291 (.cons ty293 (.cons ty295 (.cons ty297 (.cons ty301 (.cons ty307 (.cons ty311 (.cons ty313 (.cons ty327 (.cons ty335 (.cons ty352 (.cons ty359 (.cons ty366 (.cons ty375 (.cons ty377 (.cons ty379 (.cons ty382 (.cons ty384 (.cons ty385 (.cons ty411 (.cons ty415 (.cons ty426 (.cons ty430 (.cons ty432 (.cons ty439 (.cons ty443 (.cons ty446 (.nil))))))))))))))))))))))))))))))))))))))))))))))))))))))))))))))))))))))))))))))))))))))))))) (by kernel_rfl)
theorem tyAll : TyAllR tys tyl := .flat (by kernel_rfl) (by kernel_rfl) (.flat (by kernel_rfl) (by kernel_rfl) (.flat (by kernel_rfl) (by kernel_rfl) (.flat (by kernel_rfl) (by kernel_rfl) (.flat (by kernel_rfl) (by kernel_rfl) (.flat (by kernel_rfl) (by kernel_rfl) (.flat (by kernel_rfl) (by kernel_rfl) (.flat (by kernel_rfl) (by kernel_rfl) (.flat (by kernel_rfl) (by kernel_rfl) (.flat (by kernel_rfl) (by kernel_rfl) (.flat (by kernel_rfl) (by kernel_rfl) (.flat (by kernel_rfl) (by kernel_rfl) (.flat (by kernel_rfl) (by kernel_rfl) (.flat (by kernel_rfl) (by kernel_rfl) (.flat (by kernel_rfl) (by kernel_rfl) (.flat (by kernel_rfl) (by kernel_rfl) (.flat (by kernel_rfl) (by kernel_rfl) (.flat (by kernel_rfl) (by kernel_rfl) (.flat (by kernel_rfl) (by kernel_rfl) (.flat (by kernel_rfl) (by kernel_rfl) (.flat (by kernel_rfl) (by kernel_rfl) (.flat (by kernel_rfl) (by kernel_rfl) (.flat (by kernel_rfl) (by kernel_rfl) (.flat (by kernel_rfl) (by kernel_rfl) (.flat (by kernel_rfl) (by kernel_rfl) (.flat (by kernel_rfl) (by kernel_rfl) (.flat (by kernel_rfl) (by kernel_rfl) (.flat (by kernel_rfl) (by kernel_rfl) (.flat (by kernel_rfl) (by kernel_rfl) (.flat (by kernel_rfl) (by kernel_rfl) (.flat (by kernel_rfl) (by kernel_rfl) (.flat (by kernel_rfl) (by kernel_rfl) (.flat (by kernel_rfl) (by kernel_rfl) (.flat (by kernel_rfl) (by kernel_rfl) (.flat (by kernel_rfl) (by kernel_rfl) (.flat (by kernel_rfl) (by kernel_rfl) (.flat (by kernel_rfl) (by kernel_rfl) (.flat (by kernel_rfl) (by kernel_rfl) (.flat (by kernel_rfl) (by kernel_rfl) (.flat (by kernel_rfl) (by kernel_rfl) (.flat (by kernel_rfl) (by kernel_rfl) (.flat (by kernel_rfl) (by kernel_rfl) (.flat (by kernel_rfl) (by kernel_rfl) (.flat (by kernel_rfl) (by kernel_rfl) (.flat (by kernel_rfl) (by kernel_rfl) (.flat (by kernel_rfl) (by kernel_rfl) (.flat (by kernel_rfl) (by kernel_rfl) (.flat (by kernel_rfl) (by kernel_rfl) (.flat (by kernel_rfl) (by kernel_rfl) (.flat (by kernel_rfl) (by kernel_rfl) (.flat (by kernel_rfl) (by kernel_rfl) (.flat (by kernel_rfl) (by kernel_rfl) (.flat (by kernel_rfl) (by kernel_rfl) (.flat (by kernel_rfl) (by kernel_rfl) (.flat (by kernel_rfl) (by kernel_rfl) (.flat (by kernel_rfl) (by kernel_rfl) (.flat (by kernel_rfl) (by kernel_rfl) (.flat (by kernel_rfl) (by kernel_rfl) (.flat (by kernel_rfl) (by kernel_rfl) (.flat (by kernel_rfl) (by kernel_rfl) (.flat (by kernel_rfl) (by kernel_rfl) (.flat (by kernel_rfl) (by kernel_rfl) (.flat (by kernel_rfl) (by kernel_rfl) (.flat (by kernel_rfl) (by kernel_rfl) (.flat (by kernel_rfl) (by kernel_rfl) (.flat (by kernel_rfl) (by kernel_rfl) (.flat (by kernel_rfl) (by kernel_rfl) (.arr (te := ti5) rfl (by kernel_rfl) rfl rfl (by kernel_rfl) (.flat (by kernel_rfl) (by kernel_rfl) (.flat (by kernel_rfl) (by kernel_rfl) (.flat (by kernel_rfl) (by kernel_rfl) (.flat (by kernel_rfl) (by kernel_rfl) (.flat (by kernel_rfl) (by kernel_rfl) (.flat (by kernel_rfl) (by kernel_rfl) (.flat (by kernel_rfl) (by kernel_rfl) (.flat (by kernel_rfl) (by kernel_rfl) (.flat (by kernel_rfl) (by kernel_rfl) (.flat (by kernel_rfl) (by kernel_rfl) (.flat (by kernel_rfl) (by kernel_rfl) (.flat (by kernel_rfl) (by kernel_rfl) (.flat (by kernel_rfl) (by kernel_rfl) (.flat (by kernel_rfl) (by kernel_rfl) (.flat (by kernel_rfl) (by kernel_rfl) (.flat (by kernel_rfl) (by kernel_rfl) (.flat (by kernel_rfl) (by kernel_rfl) (.flat (by kernel_rfl) (by kernel_rfl) (.flat (by kernel_rfl) (by kernel_rfl) (.flat (by kernel_rfl) (by kernel_rfl) (.flat (by kernel_rfl) (by kernel_rfl) (.arr (te := ti112) rfl (by kernel_rfl) rfl rfl (by kernel_rfl) (.nil))))))))))))))))))))))))))))))))))))))))))))))))))))))))))))))))))))))))))))))))))))))))))
theorem tyR : TyR tys := tyR_of tyAll
end Go.XS.Tryz
/- Calls of a closed run: each call does what its run says. -/
namespace Go.XS.Tryz
open Go Go.TS
set_option maxRecDepth 100000
set_option linter.unusedVariables false
theorem anm0_0R : RunOf Go.Proofs.Tryz.prog 33 anm0_0 := run_of (c := Go.Proofs.Tryz.f33.body.getD .skip) (rs := Go.Proofs.Tryz.f33.results.toList) (k := Go.Proofs.Tryz.f33.ntmps) hm tysOk tyR fnsOk ixOk ixR (by kernel_rfl) (by kernel_rfl) (endM_fast anm0_0r)
theorem anm0_1R : RunOf Go.Proofs.Tryz.prog 33 anm0_1 := run_of (c := Go.Proofs.Tryz.f33.body.getD .skip) (rs := Go.Proofs.Tryz.f33.results.toList) (k := Go.Proofs.Tryz.f33.ntmps) hm tysOk tyR fnsOk ixOk ixR (by kernel_rfl) (by kernel_rfl) (endM_fast anm0_1r)
theorem anall0 : ∀ m, m ∈ anes0 → RunOf Go.Proofs.Tryz.prog 33 m := by
  intro m hm
  simp only [anes0, List.mem_cons, List.not_mem_nil, or_false] at hm
  rcases hm with rfl | rfl
  · exact anm0_0R
  · exact anm0_1R
noncomputable def anx1 : Nat → Option CallP := overI (ixGet ixl) 33 (pSem Go.Proofs.Tryz.prog 33)
theorem anfOk1 : FnsOk Go.Proofs.Tryz.prog anf1 := fnsOk.over 33 (iMemo anes0)
theorem anxOk1 : IxOk Go.Proofs.Tryz.prog anx1 := ixOk.over (pSem_sound Go.Proofs.Tryz.call33)
theorem anxR1 : IxR anf1 anx1 := ixR.over (iMemo_R1 anall0)
theorem anm1_0R : RunOf Go.Proofs.Tryz.prog 7 anm1_0 := run_of (c := Go.Proofs.Tryz.f7.body.getD .skip) (rs := Go.Proofs.Tryz.f7.results.toList) (k := Go.Proofs.Tryz.f7.ntmps) hm tysOk tyR anfOk1 anxOk1 anxR1 (by kernel_rfl) (by kernel_rfl) (endM_fast anm1_0r)
theorem anall1 : ∀ m, m ∈ anes1 → RunOf Go.Proofs.Tryz.prog 7 m := by
  intro m hm
  simp only [anes1, List.mem_cons, List.not_mem_nil, or_false] at hm
  rcases hm with rfl
  exact anm1_0R
noncomputable def anx2 : Nat → Option CallP := overI anx1 7 (pSem Go.Proofs.Tryz.prog 7)
theorem anfOk2 : FnsOk Go.Proofs.Tryz.prog anf2 := anfOk1.over 7 (iMemo anes1)
theorem anxOk2 : IxOk Go.Proofs.Tryz.prog anx2 := anxOk1.over (pSem_sound Go.Proofs.Tryz.call7)
theorem anxR2 : IxR anf2 anx2 := anxR1.over (iMemo_R1 anall1)
theorem anm2_0R : RunOf Go.Proofs.Tryz.prog 29 anm2_0 := run_of (c := Go.Proofs.Tryz.f29.body.getD .skip) (rs := Go.Proofs.Tryz.f29.results.toList) (k := Go.Proofs.Tryz.f29.ntmps) hm tysOk tyR anfOk2 anxOk2 anxR2 (by kernel_rfl) (by kernel_rfl) (endM_fast anm2_0r)
theorem anm2_1R : RunOf Go.Proofs.Tryz.prog 29 anm2_1 := run_of (c := Go.Proofs.Tryz.f29.body.getD .skip) (rs := Go.Proofs.Tryz.f29.results.toList) (k := Go.Proofs.Tryz.f29.ntmps) hm tysOk tyR anfOk2 anxOk2 anxR2 (by kernel_rfl) (by kernel_rfl) (endM_fast anm2_1r)
theorem anm2_2R : RunOf Go.Proofs.Tryz.prog 29 anm2_2 := run_of (c := Go.Proofs.Tryz.f29.body.getD .skip) (rs := Go.Proofs.Tryz.f29.results.toList) (k := Go.Proofs.Tryz.f29.ntmps) hm tysOk tyR anfOk2 anxOk2 anxR2 (by kernel_rfl) (by kernel_rfl) (endM_fast anm2_2r)
theorem anm2_3R : RunOf Go.Proofs.Tryz.prog 29 anm2_3 := run_of (c := Go.Proofs.Tryz.f29.body.getD .skip) (rs := Go.Proofs.Tryz.f29.results.toList) (k := Go.Proofs.Tryz.f29.ntmps) hm tysOk tyR anfOk2 anxOk2 anxR2 (by kernel_rfl) (by kernel_rfl) (endM_fast anm2_3r)
theorem anall2 : ∀ m, m ∈ anes2 → RunOf Go.Proofs.Tryz.prog 29 m := by
  intro m hm
  simp only [anes2, List.mem_cons, List.not_mem_nil, or_false] at hm
  rcases hm with rfl | rfl | rfl | rfl
  · exact anm2_0R
  · exact anm2_1R
  · exact anm2_2R
  · exact anm2_3R
noncomputable def anx3 : Nat → Option CallP := overI anx2 29 (pSem Go.Proofs.Tryz.prog 29)
theorem anfOk3 : FnsOk Go.Proofs.Tryz.prog anf3 := anfOk2.over 29 (iMemo anes2)
theorem anxOk3 : IxOk Go.Proofs.Tryz.prog anx3 := anxOk2.over (pSem_sound Go.Proofs.Tryz.call29)
theorem anxR3 : IxR anf3 anx3 := anxR2.over (iMemo_R1 anall2)
theorem anm3_0R : RunOf Go.Proofs.Tryz.prog 30 anm3_0 := run_of (c := Go.Proofs.Tryz.f30.body.getD .skip) (rs := Go.Proofs.Tryz.f30.results.toList) (k := Go.Proofs.Tryz.f30.ntmps) hm tysOk tyR anfOk3 anxOk3 anxR3 (by kernel_rfl) (by kernel_rfl) (endM_fast anm3_0r)
theorem anall3 : ∀ m, m ∈ anes3 → RunOf Go.Proofs.Tryz.prog 30 m := by
  intro m hm
  simp only [anes3, List.mem_cons, List.not_mem_nil, or_false] at hm
  rcases hm with rfl
  exact anm3_0R
noncomputable def anx4 : Nat → Option CallP := overI anx3 30 (pSem Go.Proofs.Tryz.prog 30)
theorem anfOk4 : FnsOk Go.Proofs.Tryz.prog anf4 := anfOk3.over 30 (iMemo anes3)
theorem anxOk4 : IxOk Go.Proofs.Tryz.prog anx4 := anxOk3.over (pSem_sound Go.Proofs.Tryz.call30)
theorem anxR4 : IxR anf4 anx4 := anxR3.over (iMemo_R1 anall3)
theorem anm4_0R : RunOf Go.Proofs.Tryz.prog 5 anm4_0 := run_of (c := Go.Proofs.Tryz.f5.body.getD .skip) (rs := Go.Proofs.Tryz.f5.results.toList) (k := Go.Proofs.Tryz.f5.ntmps) hm tysOk tyR anfOk4 anxOk4 anxR4 (by kernel_rfl) (by kernel_rfl) (endM_fast anm4_0r)
theorem anall4 : ∀ m, m ∈ anes4 → RunOf Go.Proofs.Tryz.prog 5 m := by
  intro m hm
  simp only [anes4, List.mem_cons, List.not_mem_nil, or_false] at hm
  rcases hm with rfl
  exact anm4_0R
noncomputable def anx5 : Nat → Option CallP := overI anx4 5 (pSem Go.Proofs.Tryz.prog 5)
theorem anfOk5 : FnsOk Go.Proofs.Tryz.prog anf5 := anfOk4.over 5 (iMemo anes4)
theorem anxOk5 : IxOk Go.Proofs.Tryz.prog anx5 := anxOk4.over (pSem_sound Go.Proofs.Tryz.call5)
theorem anxR5 : IxR anf5 anx5 := anxR4.over (iMemo_R1 anall4)
end Go.XS.Tryz
