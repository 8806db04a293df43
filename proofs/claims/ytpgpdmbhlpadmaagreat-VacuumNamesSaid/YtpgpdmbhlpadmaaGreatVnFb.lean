/- The tables of a run: facts of the functions. -/
import Derived.Test.YtpgpdmbhlpadmaaGreatVnTa
import Derived.Test.YtpgpdmbhlpadmaaGreatTeL
import Derived.Test.YtpgpdmbhlpadmaaGreatXsClosed
import Derived.Test.YtpgpdmbhlpadmaaGreatXiBase
import Derived.Test.YtpgpdmbhlpadmaaGreatXiIns
import Derived.Test.YtpgpdmbhlpadmaaGreatXsTab
import Derived.Test.YtpgpdmbhlpadmaaGreatXsFastE
import Derived.Test.YtpgpdmbhlpadmaaGreatVnMr0
import Derived.Test.YtpgpdmbhlpadmaaGreatVnMr1
import Derived.Test.YtpgpdmbhlpadmaaGreatVnMr2
import Derived.Test.YtpgpdmbhlpadmaaGreatVnMr3
import Derived.Test.YtpgpdmbhlpadmaaGreatVnMr4
import Derived.Test.YtpgpdmbhlpadmaaGreatVnMr5
import Derived.Test.YtpgpdmbhlpadmaaGreatVnMr6
import Derived.Test.YtpgpdmbhlpadmaaGreatVnMr7
import Derived.Test.YtpgpdmbhlpadmaaGreatVnMr8
set_option linter.unusedSimpArgs false
set_option linter.unusedVariables false
namespace Go.XS.Tryz
open Go Go.TS
set_option maxRecDepth 100000
theorem ck98 : codeOk hn0 Go.Proofs.Tryz.f98.ntmps (Go.Proofs.Tryz.f98.body.getD .skip) = true := by kernel_rfl
theorem ck88 : codeOk hn0 Go.Proofs.Tryz.f88.ntmps (Go.Proofs.Tryz.f88.body.getD .skip) = true := by kernel_rfl
theorem ck32 : codeOk hn0 Go.Proofs.Tryz.f32.ntmps (Go.Proofs.Tryz.f32.body.getD .skip) = true := by kernel_rfl
theorem ck21 : codeOk hn0 Go.Proofs.Tryz.f21.ntmps (Go.Proofs.Tryz.f21.body.getD .skip) = true := by kernel_rfl
theorem ck105 : codeOk hn0 Go.Proofs.Tryz.f105.ntmps (Go.Proofs.Tryz.f105.body.getD .skip) = true := by kernel_rfl
theorem ck270 : codeOk hn0 Go.Proofs.Tryz.f270.ntmps (Go.Proofs.Tryz.f270.body.getD .skip) = true := by kernel_rfl
theorem ck172 : codeOk hn0 Go.Proofs.Tryz.f172.ntmps (Go.Proofs.Tryz.f172.body.getD .skip) = true := by kernel_rfl
theorem ck180 : codeOk hn0 Go.Proofs.Tryz.f180.ntmps (Go.Proofs.Tryz.f180.body.getD .skip) = true := by kernel_rfl
theorem ck290 : codeOk hn0 Go.Proofs.Tryz.f290.ntmps (Go.Proofs.Tryz.f290.body.getD .skip) = true := by kernel_rfl
theorem ck210 : codeOk hn0 Go.Proofs.Tryz.f210.ntmps (Go.Proofs.Tryz.f210.body.getD .skip) = true := by kernel_rfl
theorem ck186 : codeOk hn0 Go.Proofs.Tryz.f186.ntmps (Go.Proofs.Tryz.f186.body.getD .skip) = true := by kernel_rfl
theorem ck106 : codeOk hn0 Go.Proofs.Tryz.f106.ntmps (Go.Proofs.Tryz.f106.body.getD .skip) = true := by kernel_rfl
theorem ck48 : codeOk hn0 Go.Proofs.Tryz.f48.ntmps (Go.Proofs.Tryz.f48.body.getD .skip) = true := by kernel_rfl
theorem ck113 : codeOk hn0 Go.Proofs.Tryz.f113.ntmps (Go.Proofs.Tryz.f113.body.getD .skip) = true := by kernel_rfl
theorem ck73 : codeOk hn0 Go.Proofs.Tryz.f73.ntmps (Go.Proofs.Tryz.f73.body.getD .skip) = true := by kernel_rfl
theorem ck118 : codeOk hn0 Go.Proofs.Tryz.f118.ntmps (Go.Proofs.Tryz.f118.body.getD .skip) = true := by kernel_rfl
theorem ck178 : codeOk hn0 Go.Proofs.Tryz.f178.ntmps (Go.Proofs.Tryz.f178.body.getD .skip) = true := by kernel_rfl
theorem ck114 : codeOk hn0 Go.Proofs.Tryz.f114.ntmps (Go.Proofs.Tryz.f114.body.getD .skip) = true := by kernel_rfl
theorem ck115 : codeOk hn0 Go.Proofs.Tryz.f115.ntmps (Go.Proofs.Tryz.f115.body.getD .skip) = true := by kernel_rfl
theorem ck185 : codeOk hn0 Go.Proofs.Tryz.f185.ntmps (Go.Proofs.Tryz.f185.body.getD .skip) = true := by kernel_rfl
theorem ck209 : codeOk hn0 Go.Proofs.Tryz.f209.ntmps (Go.Proofs.Tryz.f209.body.getD .skip) = true := by kernel_rfl
theorem ck295 : codeOk hn0 Go.Proofs.Tryz.f295.ntmps (Go.Proofs.Tryz.f295.body.getD .skip) = true := by kernel_rfl
theorem ck214 : codeOk hn0 Go.Proofs.Tryz.f214.ntmps (Go.Proofs.Tryz.f214.body.getD .skip) = true := by kernel_rfl
theorem ck345 : codeOk hn0 Go.Proofs.Tryz.f345.ntmps (Go.Proofs.Tryz.f345.body.getD .skip) = true := by kernel_rfl
theorem ck297 : codeOk hn0 Go.Proofs.Tryz.f297.ntmps (Go.Proofs.Tryz.f297.body.getD .skip) = true := by kernel_rfl
theorem ck298 : codeOk hn0 Go.Proofs.Tryz.f298.ntmps (Go.Proofs.Tryz.f298.body.getD .skip) = true := by kernel_rfl
theorem ck225 : codeOk hn0 Go.Proofs.Tryz.f225.ntmps (Go.Proofs.Tryz.f225.body.getD .skip) = true := by kernel_rfl
theorem ck211 : codeOk hn0 Go.Proofs.Tryz.f211.ntmps (Go.Proofs.Tryz.f211.body.getD .skip) = true := by kernel_rfl
theorem ck291 : codeOk hn0 Go.Proofs.Tryz.f291.ntmps (Go.Proofs.Tryz.f291.body.getD .skip) = true := by kernel_rfl
theorem ck292 : codeOk hn0 Go.Proofs.Tryz.f292.ntmps (Go.Proofs.Tryz.f292.body.getD .skip) = true := by kernel_rfl
theorem ck218 : codeOk hn0 Go.Proofs.Tryz.f218.ntmps (Go.Proofs.Tryz.f218.body.getD .skip) = true := by kernel_rfl
theorem ck219 : codeOk hn0 Go.Proofs.Tryz.f219.ntmps (Go.Proofs.Tryz.f219.body.getD .skip) = true := by kernel_rfl
theorem ck282 : codeOk hn0 Go.Proofs.Tryz.f282.ntmps (Go.Proofs.Tryz.f282.body.getD .skip) = true := by kernel_rfl
theorem ck283 : codeOk hn0 Go.Proofs.Tryz.f283.ntmps (Go.Proofs.Tryz.f283.body.getD .skip) = true := by kernel_rfl
theorem ck220 : codeOk hn0 Go.Proofs.Tryz.f220.ntmps (Go.Proofs.Tryz.f220.body.getD .skip) = true := by kernel_rfl
theorem ck120 : codeOk hn0 Go.Proofs.Tryz.f120.ntmps (Go.Proofs.Tryz.f120.body.getD .skip) = true := by kernel_rfl
theorem ck339 : codeOk hn0 Go.Proofs.Tryz.f339.ntmps (Go.Proofs.Tryz.f339.body.getD .skip) = true := by kernel_rfl
theorem ck293 : codeOk hn0 Go.Proofs.Tryz.f293.ntmps (Go.Proofs.Tryz.f293.body.getD .skip) = true := by kernel_rfl
theorem ck274 : codeOk hn0 Go.Proofs.Tryz.f274.ntmps (Go.Proofs.Tryz.f274.body.getD .skip) = true := by kernel_rfl
theorem ck296 : codeOk hn0 Go.Proofs.Tryz.f296.ntmps (Go.Proofs.Tryz.f296.body.getD .skip) = true := by kernel_rfl
theorem ck271 : codeOk hn0 Go.Proofs.Tryz.f271.ntmps (Go.Proofs.Tryz.f271.body.getD .skip) = true := by kernel_rfl
theorem ck333 : codeOk hn0 Go.Proofs.Tryz.f333.ntmps (Go.Proofs.Tryz.f333.body.getD .skip) = true := by kernel_rfl
theorem ck275 : codeOk hn0 Go.Proofs.Tryz.f275.ntmps (Go.Proofs.Tryz.f275.body.getD .skip) = true := by kernel_rfl
theorem ck179 : codeOk hn0 Go.Proofs.Tryz.f179.ntmps (Go.Proofs.Tryz.f179.body.getD .skip) = true := by kernel_rfl
theorem ck86 : codeOk hn0 Go.Proofs.Tryz.f86.ntmps (Go.Proofs.Tryz.f86.body.getD .skip) = true := by kernel_rfl
theorem ck239 : codeOk hn0 Go.Proofs.Tryz.f239.ntmps (Go.Proofs.Tryz.f239.body.getD .skip) = true := by kernel_rfl
theorem ck346 : codeOk hn0 Go.Proofs.Tryz.f346.ntmps (Go.Proofs.Tryz.f346.body.getD .skip) = true := by kernel_rfl
theorem ck366 : codeOk hn0 Go.Proofs.Tryz.f366.ntmps (Go.Proofs.Tryz.f366.body.getD .skip) = true := by kernel_rfl
theorem ck347 : codeOk hn0 Go.Proofs.Tryz.f347.ntmps (Go.Proofs.Tryz.f347.body.getD .skip) = true := by kernel_rfl
theorem ck348 : codeOk hn0 Go.Proofs.Tryz.f348.ntmps (Go.Proofs.Tryz.f348.body.getD .skip) = true := by kernel_rfl
theorem ck301 : codeOk hn0 Go.Proofs.Tryz.f301.ntmps (Go.Proofs.Tryz.f301.body.getD .skip) = true := by kernel_rfl
theorem ck238 : codeOk hn0 Go.Proofs.Tryz.f238.ntmps (Go.Proofs.Tryz.f238.body.getD .skip) = true := by kernel_rfl
theorem ck243 : codeOk hn0 Go.Proofs.Tryz.f243.ntmps (Go.Proofs.Tryz.f243.body.getD .skip) = true := by kernel_rfl
theorem ck147 : codeOk hn0 Go.Proofs.Tryz.f147.ntmps (Go.Proofs.Tryz.f147.body.getD .skip) = true := by kernel_rfl
theorem ck253 : codeOk hn0 Go.Proofs.Tryz.f253.ntmps (Go.Proofs.Tryz.f253.body.getD .skip) = true := by kernel_rfl
theorem ck148 : codeOk hn0 Go.Proofs.Tryz.f148.ntmps (Go.Proofs.Tryz.f148.body.getD .skip) = true := by kernel_rfl
theorem ck245 : codeOk hn0 Go.Proofs.Tryz.f245.ntmps (Go.Proofs.Tryz.f245.body.getD .skip) = true := by kernel_rfl
theorem ck244 : codeOk hn0 Go.Proofs.Tryz.f244.ntmps (Go.Proofs.Tryz.f244.body.getD .skip) = true := by kernel_rfl
theorem ck149 : codeOk hn0 Go.Proofs.Tryz.f149.ntmps (Go.Proofs.Tryz.f149.body.getD .skip) = true := by kernel_rfl
theorem ck74 : codeOk hn0 Go.Proofs.Tryz.f74.ntmps (Go.Proofs.Tryz.f74.body.getD .skip) = true := by kernel_rfl
theorem ck22 : codeOk hn0 Go.Proofs.Tryz.f22.ntmps (Go.Proofs.Tryz.f22.body.getD .skip) = true := by kernel_rfl
theorem ck112 : codeOk hn0 Go.Proofs.Tryz.f112.ntmps (Go.Proofs.Tryz.f112.body.getD .skip) = true := by kernel_rfl
theorem ck223 : codeOk hn0 Go.Proofs.Tryz.f223.ntmps (Go.Proofs.Tryz.f223.body.getD .skip) = true := by kernel_rfl
theorem ck181 : codeOk hn0 Go.Proofs.Tryz.f181.ntmps (Go.Proofs.Tryz.f181.body.getD .skip) = true := by kernel_rfl
theorem ck182 : codeOk hn0 Go.Proofs.Tryz.f182.ntmps (Go.Proofs.Tryz.f182.body.getD .skip) = true := by kernel_rfl
theorem ck277 : codeOk hn0 Go.Proofs.Tryz.f277.ntmps (Go.Proofs.Tryz.f277.body.getD .skip) = true := by kernel_rfl
theorem ck183 : codeOk hn0 Go.Proofs.Tryz.f183.ntmps (Go.Proofs.Tryz.f183.body.getD .skip) = true := by kernel_rfl
theorem ck184 : codeOk hn0 Go.Proofs.Tryz.f184.ntmps (Go.Proofs.Tryz.f184.body.getD .skip) = true := by kernel_rfl
theorem ck336 : codeOk hn0 Go.Proofs.Tryz.f336.ntmps (Go.Proofs.Tryz.f336.body.getD .skip) = true := by kernel_rfl
theorem ck361 : codeOk hn0 Go.Proofs.Tryz.f361.ntmps (Go.Proofs.Tryz.f361.body.getD .skip) = true := by kernel_rfl
theorem ck337 : codeOk hn0 Go.Proofs.Tryz.f337.ntmps (Go.Proofs.Tryz.f337.body.getD .skip) = true := by kernel_rfl
theorem ck362 : codeOk hn0 Go.Proofs.Tryz.f362.ntmps (Go.Proofs.Tryz.f362.body.getD .skip) = true := by kernel_rfl
theorem ck338 : codeOk hn0 Go.Proofs.Tryz.f338.ntmps (Go.Proofs.Tryz.f338.body.getD .skip) = true := by kernel_rfl
theorem ck278 : codeOk hn0 Go.Proofs.Tryz.f278.ntmps (Go.Proofs.Tryz.f278.body.getD .skip) = true := by kernel_rfl
theorem ck279 : codeOk hn0 Go.Proofs.Tryz.f279.ntmps (Go.Proofs.Tryz.f279.body.getD .skip) = true := by kernel_rfl
theorem ck187 : codeOk hn0 Go.Proofs.Tryz.f187.ntmps (Go.Proofs.Tryz.f187.body.getD .skip) = true := by kernel_rfl
theorem ck280 : codeOk hn0 Go.Proofs.Tryz.f280.ntmps (Go.Proofs.Tryz.f280.body.getD .skip) = true := by kernel_rfl
theorem ck188 : codeOk hn0 Go.Proofs.Tryz.f188.ntmps (Go.Proofs.Tryz.f188.body.getD .skip) = true := by kernel_rfl
theorem ck189 : codeOk hn0 Go.Proofs.Tryz.f189.ntmps (Go.Proofs.Tryz.f189.body.getD .skip) = true := by kernel_rfl
theorem ck340 : codeOk hn0 Go.Proofs.Tryz.f340.ntmps (Go.Proofs.Tryz.f340.body.getD .skip) = true := by kernel_rfl
theorem ck281 : codeOk hn0 Go.Proofs.Tryz.f281.ntmps (Go.Proofs.Tryz.f281.body.getD .skip) = true := by kernel_rfl
theorem ck190 : codeOk hn0 Go.Proofs.Tryz.f190.ntmps (Go.Proofs.Tryz.f190.body.getD .skip) = true := by kernel_rfl
theorem ck89 : codeOk hn0 Go.Proofs.Tryz.f89.ntmps (Go.Proofs.Tryz.f89.body.getD .skip) = true := by kernel_rfl
theorem ck217 : codeOk hn0 Go.Proofs.Tryz.f217.ntmps (Go.Proofs.Tryz.f217.body.getD .skip) = true := by kernel_rfl
theorem ck119 : codeOk hn0 Go.Proofs.Tryz.f119.ntmps (Go.Proofs.Tryz.f119.body.getD .skip) = true := by kernel_rfl
theorem ck54 : codeOk hn0 Go.Proofs.Tryz.f54.ntmps (Go.Proofs.Tryz.f54.body.getD .skip) = true := by kernel_rfl
theorem ck33 : codeOk hn0 Go.Proofs.Tryz.f33.ntmps (Go.Proofs.Tryz.f33.body.getD .skip) = true := by kernel_rfl
theorem ck6 : codeOk hn0 Go.Proofs.Tryz.f6.ntmps (Go.Proofs.Tryz.f6.body.getD .skip) = true := by kernel_rfl
theorem ck121 : codeOk hn0 Go.Proofs.Tryz.f121.ntmps (Go.Proofs.Tryz.f121.body.getD .skip) = true := by kernel_rfl
theorem ck122 : codeOk hn0 Go.Proofs.Tryz.f122.ntmps (Go.Proofs.Tryz.f122.body.getD .skip) = true := by kernel_rfl
theorem ck55 : codeOk hn0 Go.Proofs.Tryz.f55.ntmps (Go.Proofs.Tryz.f55.body.getD .skip) = true := by kernel_rfl
theorem ck231 : codeOk hn0 Go.Proofs.Tryz.f231.ntmps (Go.Proofs.Tryz.f231.body.getD .skip) = true := by kernel_rfl
theorem ck229 : codeOk hn0 Go.Proofs.Tryz.f229.ntmps (Go.Proofs.Tryz.f229.body.getD .skip) = true := by kernel_rfl
theorem ck156 : codeOk hn0 Go.Proofs.Tryz.f156.ntmps (Go.Proofs.Tryz.f156.body.getD .skip) = true := by kernel_rfl
theorem ck230 : codeOk hn0 Go.Proofs.Tryz.f230.ntmps (Go.Proofs.Tryz.f230.body.getD .skip) = true := by kernel_rfl
theorem ck232 : codeOk hn0 Go.Proofs.Tryz.f232.ntmps (Go.Proofs.Tryz.f232.body.getD .skip) = true := by kernel_rfl
theorem ck233 : codeOk hn0 Go.Proofs.Tryz.f233.ntmps (Go.Proofs.Tryz.f233.body.getD .skip) = true := by kernel_rfl
theorem ck133 : codeOk hn0 Go.Proofs.Tryz.f133.ntmps (Go.Proofs.Tryz.f133.body.getD .skip) = true := by kernel_rfl
theorem ck60 : codeOk hn0 Go.Proofs.Tryz.f60.ntmps (Go.Proofs.Tryz.f60.body.getD .skip) = true := by kernel_rfl
theorem ck284 : codeOk hn0 Go.Proofs.Tryz.f284.ntmps (Go.Proofs.Tryz.f284.body.getD .skip) = true := by kernel_rfl
theorem ck343 : codeOk hn0 Go.Proofs.Tryz.f343.ntmps (Go.Proofs.Tryz.f343.body.getD .skip) = true := by kernel_rfl
theorem ck294 : codeOk hn0 Go.Proofs.Tryz.f294.ntmps (Go.Proofs.Tryz.f294.body.getD .skip) = true := by kernel_rfl
theorem ck212 : codeOk hn0 Go.Proofs.Tryz.f212.ntmps (Go.Proofs.Tryz.f212.body.getD .skip) = true := by kernel_rfl
theorem ck116 : codeOk hn0 Go.Proofs.Tryz.f116.ntmps (Go.Proofs.Tryz.f116.body.getD .skip) = true := by kernel_rfl
theorem ck215 : codeOk hn0 Go.Proofs.Tryz.f215.ntmps (Go.Proofs.Tryz.f215.body.getD .skip) = true := by kernel_rfl
theorem ck117 : codeOk hn0 Go.Proofs.Tryz.f117.ntmps (Go.Proofs.Tryz.f117.body.getD .skip) = true := by kernel_rfl
theorem ck51 : codeOk hn0 Go.Proofs.Tryz.f51.ntmps (Go.Proofs.Tryz.f51.body.getD .skip) = true := by kernel_rfl
theorem ck263 : codeOk hn0 Go.Proofs.Tryz.f263.ntmps (Go.Proofs.Tryz.f263.body.getD .skip) = true := by kernel_rfl
theorem ck264 : codeOk hn0 Go.Proofs.Tryz.f264.ntmps (Go.Proofs.Tryz.f264.body.getD .skip) = true := by kernel_rfl
theorem ck260 : codeOk hn0 Go.Proofs.Tryz.f260.ntmps (Go.Proofs.Tryz.f260.body.getD .skip) = true := by kernel_rfl
theorem ck261 : codeOk hn0 Go.Proofs.Tryz.f261.ntmps (Go.Proofs.Tryz.f261.body.getD .skip) = true := by kernel_rfl
theorem ck265 : codeOk hn0 Go.Proofs.Tryz.f265.ntmps (Go.Proofs.Tryz.f265.body.getD .skip) = true := by kernel_rfl
theorem ck165 : codeOk hn0 Go.Proofs.Tryz.f165.ntmps (Go.Proofs.Tryz.f165.body.getD .skip) = true := by kernel_rfl
theorem ck174 : codeOk hn0 Go.Proofs.Tryz.f174.ntmps (Go.Proofs.Tryz.f174.body.getD .skip) = true := by kernel_rfl
theorem ck315 : codeOk hn0 Go.Proofs.Tryz.f315.ntmps (Go.Proofs.Tryz.f315.body.getD .skip) = true := by kernel_rfl
theorem ck262 : codeOk hn0 Go.Proofs.Tryz.f262.ntmps (Go.Proofs.Tryz.f262.body.getD .skip) = true := by kernel_rfl
theorem ck318 : codeOk hn0 Go.Proofs.Tryz.f318.ntmps (Go.Proofs.Tryz.f318.body.getD .skip) = true := by kernel_rfl
theorem ck317 : codeOk hn0 Go.Proofs.Tryz.f317.ntmps (Go.Proofs.Tryz.f317.body.getD .skip) = true := by kernel_rfl
theorem ck266 : codeOk hn0 Go.Proofs.Tryz.f266.ntmps (Go.Proofs.Tryz.f266.body.getD .skip) = true := by kernel_rfl
theorem ck167 : codeOk hn0 Go.Proofs.Tryz.f167.ntmps (Go.Proofs.Tryz.f167.body.getD .skip) = true := by kernel_rfl
theorem ck319 : codeOk hn0 Go.Proofs.Tryz.f319.ntmps (Go.Proofs.Tryz.f319.body.getD .skip) = true := by kernel_rfl
theorem ck267 : codeOk hn0 Go.Proofs.Tryz.f267.ntmps (Go.Proofs.Tryz.f267.body.getD .skip) = true := by kernel_rfl
theorem ck168 : codeOk hn0 Go.Proofs.Tryz.f168.ntmps (Go.Proofs.Tryz.f168.body.getD .skip) = true := by kernel_rfl
theorem ck138 : codeOk hn0 Go.Proofs.Tryz.f138.ntmps (Go.Proofs.Tryz.f138.body.getD .skip) = true := by kernel_rfl
theorem ck221 : codeOk hn0 Go.Proofs.Tryz.f221.ntmps (Go.Proofs.Tryz.f221.body.getD .skip) = true := by kernel_rfl
theorem ck123 : codeOk hn0 Go.Proofs.Tryz.f123.ntmps (Go.Proofs.Tryz.f123.body.getD .skip) = true := by kernel_rfl
theorem ck126 : codeOk hn0 Go.Proofs.Tryz.f126.ntmps (Go.Proofs.Tryz.f126.body.getD .skip) = true := by kernel_rfl
theorem ck132 : codeOk hn0 Go.Proofs.Tryz.f132.ntmps (Go.Proofs.Tryz.f132.body.getD .skip) = true := by kernel_rfl
theorem ck256 : codeOk hn0 Go.Proofs.Tryz.f256.ntmps (Go.Proofs.Tryz.f256.body.getD .skip) = true := by kernel_rfl
theorem ck258 : codeOk hn0 Go.Proofs.Tryz.f258.ntmps (Go.Proofs.Tryz.f258.body.getD .skip) = true := by kernel_rfl
theorem ck159 : codeOk hn0 Go.Proofs.Tryz.f159.ntmps (Go.Proofs.Tryz.f159.body.getD .skip) = true := by kernel_rfl
theorem ck257 : codeOk hn0 Go.Proofs.Tryz.f257.ntmps (Go.Proofs.Tryz.f257.body.getD .skip) = true := by kernel_rfl
theorem ck157 : codeOk hn0 Go.Proofs.Tryz.f157.ntmps (Go.Proofs.Tryz.f157.body.getD .skip) = true := by kernel_rfl
theorem ck259 : codeOk hn0 Go.Proofs.Tryz.f259.ntmps (Go.Proofs.Tryz.f259.body.getD .skip) = true := by kernel_rfl
theorem ck158 : codeOk hn0 Go.Proofs.Tryz.f158.ntmps (Go.Proofs.Tryz.f158.body.getD .skip) = true := by kernel_rfl
theorem ck160 : codeOk hn0 Go.Proofs.Tryz.f160.ntmps (Go.Proofs.Tryz.f160.body.getD .skip) = true := by kernel_rfl
theorem ck79 : codeOk hn0 Go.Proofs.Tryz.f79.ntmps (Go.Proofs.Tryz.f79.body.getD .skip) = true := by kernel_rfl
theorem ck197 : codeOk hn0 Go.Proofs.Tryz.f197.ntmps (Go.Proofs.Tryz.f197.body.getD .skip) = true := by kernel_rfl
theorem ck95 : codeOk hn0 Go.Proofs.Tryz.f95.ntmps (Go.Proofs.Tryz.f95.body.getD .skip) = true := by kernel_rfl
theorem ck96 : codeOk hn0 Go.Proofs.Tryz.f96.ntmps (Go.Proofs.Tryz.f96.body.getD .skip) = true := by kernel_rfl
theorem ck199 : codeOk hn0 Go.Proofs.Tryz.f199.ntmps (Go.Proofs.Tryz.f199.body.getD .skip) = true := by kernel_rfl
theorem ck200 : codeOk hn0 Go.Proofs.Tryz.f200.ntmps (Go.Proofs.Tryz.f200.body.getD .skip) = true := by kernel_rfl
theorem ck331 : codeOk hn0 Go.Proofs.Tryz.f331.ntmps (Go.Proofs.Tryz.f331.body.getD .skip) = true := by kernel_rfl
theorem ck332 : codeOk hn0 Go.Proofs.Tryz.f332.ntmps (Go.Proofs.Tryz.f332.body.getD .skip) = true := by kernel_rfl
theorem ck273 : codeOk hn0 Go.Proofs.Tryz.f273.ntmps (Go.Proofs.Tryz.f273.body.getD .skip) = true := by kernel_rfl
theorem ck383 : codeOk hn0 Go.Proofs.Tryz.f383.ntmps (Go.Proofs.Tryz.f383.body.getD .skip) = true := by kernel_rfl
theorem ck395 : codeOk hn0 Go.Proofs.Tryz.f395.ntmps (Go.Proofs.Tryz.f395.body.getD .skip) = true := by kernel_rfl
theorem ck384 : codeOk hn0 Go.Proofs.Tryz.f384.ntmps (Go.Proofs.Tryz.f384.body.getD .skip) = true := by kernel_rfl
theorem ck356 : codeOk hn0 Go.Proofs.Tryz.f356.ntmps (Go.Proofs.Tryz.f356.body.getD .skip) = true := by kernel_rfl
theorem ck357 : codeOk hn0 Go.Proofs.Tryz.f357.ntmps (Go.Proofs.Tryz.f357.body.getD .skip) = true := by kernel_rfl
theorem ck385 : codeOk hn0 Go.Proofs.Tryz.f385.ntmps (Go.Proofs.Tryz.f385.body.getD .skip) = true := by kernel_rfl
theorem ck399 : codeOk hn0 Go.Proofs.Tryz.f399.ntmps (Go.Proofs.Tryz.f399.body.getD .skip) = true := by kernel_rfl
theorem ck397 : codeOk hn0 Go.Proofs.Tryz.f397.ntmps (Go.Proofs.Tryz.f397.body.getD .skip) = true := by kernel_rfl
theorem ck396 : codeOk hn0 Go.Proofs.Tryz.f396.ntmps (Go.Proofs.Tryz.f396.body.getD .skip) = true := by kernel_rfl
theorem ck386 : codeOk hn0 Go.Proofs.Tryz.f386.ntmps (Go.Proofs.Tryz.f386.body.getD .skip) = true := by kernel_rfl
theorem ck387 : codeOk hn0 Go.Proofs.Tryz.f387.ntmps (Go.Proofs.Tryz.f387.body.getD .skip) = true := by kernel_rfl
theorem ck388 : codeOk hn0 Go.Proofs.Tryz.f388.ntmps (Go.Proofs.Tryz.f388.body.getD .skip) = true := by kernel_rfl
theorem ck389 : codeOk hn0 Go.Proofs.Tryz.f389.ntmps (Go.Proofs.Tryz.f389.body.getD .skip) = true := by kernel_rfl
theorem ck390 : codeOk hn0 Go.Proofs.Tryz.f390.ntmps (Go.Proofs.Tryz.f390.body.getD .skip) = true := by kernel_rfl
theorem ck363 : codeOk hn0 Go.Proofs.Tryz.f363.ntmps (Go.Proofs.Tryz.f363.body.getD .skip) = true := by kernel_rfl
theorem ck341 : codeOk hn0 Go.Proofs.Tryz.f341.ntmps (Go.Proofs.Tryz.f341.body.getD .skip) = true := by kernel_rfl
theorem ck342 : codeOk hn0 Go.Proofs.Tryz.f342.ntmps (Go.Proofs.Tryz.f342.body.getD .skip) = true := by kernel_rfl
theorem ck288 : codeOk hn0 Go.Proofs.Tryz.f288.ntmps (Go.Proofs.Tryz.f288.body.getD .skip) = true := by kernel_rfl
theorem ck196 : codeOk hn0 Go.Proofs.Tryz.f196.ntmps (Go.Proofs.Tryz.f196.body.getD .skip) = true := by kernel_rfl
theorem ck94 : codeOk hn0 Go.Proofs.Tryz.f94.ntmps (Go.Proofs.Tryz.f94.body.getD .skip) = true := by kernel_rfl
theorem ck97 : codeOk hn0 Go.Proofs.Tryz.f97.ntmps (Go.Proofs.Tryz.f97.body.getD .skip) = true := by kernel_rfl
theorem ck44 : codeOk hn0 Go.Proofs.Tryz.f44.ntmps (Go.Proofs.Tryz.f44.body.getD .skip) = true := by kernel_rfl
theorem ck93 : codeOk hn0 Go.Proofs.Tryz.f93.ntmps (Go.Proofs.Tryz.f93.body.getD .skip) = true := by kernel_rfl
theorem ck205 : codeOk hn0 Go.Proofs.Tryz.f205.ntmps (Go.Proofs.Tryz.f205.body.getD .skip) = true := by kernel_rfl
theorem ck107 : codeOk hn0 Go.Proofs.Tryz.f107.ntmps (Go.Proofs.Tryz.f107.body.getD .skip) = true := by kernel_rfl
theorem ck124 : codeOk hn0 Go.Proofs.Tryz.f124.ntmps (Go.Proofs.Tryz.f124.body.getD .skip) = true := by kernel_rfl
theorem ck125 : codeOk hn0 Go.Proofs.Tryz.f125.ntmps (Go.Proofs.Tryz.f125.body.getD .skip) = true := by kernel_rfl
theorem ck56 : codeOk hn0 Go.Proofs.Tryz.f56.ntmps (Go.Proofs.Tryz.f56.body.getD .skip) = true := by kernel_rfl
theorem ck222 : codeOk hn0 Go.Proofs.Tryz.f222.ntmps (Go.Proofs.Tryz.f222.body.getD .skip) = true := by kernel_rfl
theorem ck127 : codeOk hn0 Go.Proofs.Tryz.f127.ntmps (Go.Proofs.Tryz.f127.body.getD .skip) = true := by kernel_rfl
theorem ck57 : codeOk hn0 Go.Proofs.Tryz.f57.ntmps (Go.Proofs.Tryz.f57.body.getD .skip) = true := by kernel_rfl
theorem ck224 : codeOk hn0 Go.Proofs.Tryz.f224.ntmps (Go.Proofs.Tryz.f224.body.getD .skip) = true := by kernel_rfl
theorem ck227 : codeOk hn0 Go.Proofs.Tryz.f227.ntmps (Go.Proofs.Tryz.f227.body.getD .skip) = true := by kernel_rfl
theorem ck129 : codeOk hn0 Go.Proofs.Tryz.f129.ntmps (Go.Proofs.Tryz.f129.body.getD .skip) = true := by kernel_rfl
theorem ck128 : codeOk hn0 Go.Proofs.Tryz.f128.ntmps (Go.Proofs.Tryz.f128.body.getD .skip) = true := by kernel_rfl
theorem ck58 : codeOk hn0 Go.Proofs.Tryz.f58.ntmps (Go.Proofs.Tryz.f58.body.getD .skip) = true := by kernel_rfl
theorem ck131 : codeOk hn0 Go.Proofs.Tryz.f131.ntmps (Go.Proofs.Tryz.f131.body.getD .skip) = true := by kernel_rfl
theorem ck59 : codeOk hn0 Go.Proofs.Tryz.f59.ntmps (Go.Proofs.Tryz.f59.body.getD .skip) = true := by kernel_rfl
theorem ck61 : codeOk hn0 Go.Proofs.Tryz.f61.ntmps (Go.Proofs.Tryz.f61.body.getD .skip) = true := by kernel_rfl
theorem ck62 : codeOk hn0 Go.Proofs.Tryz.f62.ntmps (Go.Proofs.Tryz.f62.body.getD .skip) = true := by kernel_rfl
theorem ck63 : codeOk hn0 Go.Proofs.Tryz.f63.ntmps (Go.Proofs.Tryz.f63.body.getD .skip) = true := by kernel_rfl
theorem ck101 : codeOk hn0 Go.Proofs.Tryz.f101.ntmps (Go.Proofs.Tryz.f101.body.getD .skip) = true := by kernel_rfl
theorem ck198 : codeOk hn0 Go.Proofs.Tryz.f198.ntmps (Go.Proofs.Tryz.f198.body.getD .skip) = true := by kernel_rfl
theorem ck99 : codeOk hn0 Go.Proofs.Tryz.f99.ntmps (Go.Proofs.Tryz.f99.body.getD .skip) = true := by kernel_rfl
theorem ck45 : codeOk hn0 Go.Proofs.Tryz.f45.ntmps (Go.Proofs.Tryz.f45.body.getD .skip) = true := by kernel_rfl
theorem ck100 : codeOk hn0 Go.Proofs.Tryz.f100.ntmps (Go.Proofs.Tryz.f100.body.getD .skip) = true := by kernel_rfl
theorem ck202 : codeOk hn0 Go.Proofs.Tryz.f202.ntmps (Go.Proofs.Tryz.f202.body.getD .skip) = true := by kernel_rfl
theorem ck203 : codeOk hn0 Go.Proofs.Tryz.f203.ntmps (Go.Proofs.Tryz.f203.body.getD .skip) = true := by kernel_rfl
theorem ck201 : codeOk hn0 Go.Proofs.Tryz.f201.ntmps (Go.Proofs.Tryz.f201.body.getD .skip) = true := by kernel_rfl
theorem ck102 : codeOk hn0 Go.Proofs.Tryz.f102.ntmps (Go.Proofs.Tryz.f102.body.getD .skip) = true := by kernel_rfl
theorem ck103 : codeOk hn0 Go.Proofs.Tryz.f103.ntmps (Go.Proofs.Tryz.f103.body.getD .skip) = true := by kernel_rfl
theorem ck46 : codeOk hn0 Go.Proofs.Tryz.f46.ntmps (Go.Proofs.Tryz.f46.body.getD .skip) = true := by kernel_rfl
theorem ck206 : codeOk hn0 Go.Proofs.Tryz.f206.ntmps (Go.Proofs.Tryz.f206.body.getD .skip) = true := by kernel_rfl
theorem ck207 : codeOk hn0 Go.Proofs.Tryz.f207.ntmps (Go.Proofs.Tryz.f207.body.getD .skip) = true := by kernel_rfl
theorem ck108 : codeOk hn0 Go.Proofs.Tryz.f108.ntmps (Go.Proofs.Tryz.f108.body.getD .skip) = true := by kernel_rfl
theorem ck66 : codeOk hn0 Go.Proofs.Tryz.f66.ntmps (Go.Proofs.Tryz.f66.body.getD .skip) = true := by kernel_rfl
theorem ck42 : codeOk hn0 Go.Proofs.Tryz.f42.ntmps (Go.Proofs.Tryz.f42.body.getD .skip) = true := by kernel_rfl
theorem ck289 : codeOk hn0 Go.Proofs.Tryz.f289.ntmps (Go.Proofs.Tryz.f289.body.getD .skip) = true := by kernel_rfl
theorem ck208 : codeOk hn0 Go.Proofs.Tryz.f208.ntmps (Go.Proofs.Tryz.f208.body.getD .skip) = true := by kernel_rfl
theorem ck111 : codeOk hn0 Go.Proofs.Tryz.f111.ntmps (Go.Proofs.Tryz.f111.body.getD .skip) = true := by kernel_rfl
theorem ck70 : codeOk hn0 Go.Proofs.Tryz.f70.ntmps (Go.Proofs.Tryz.f70.body.getD .skip) = true := by kernel_rfl
theorem ck234 : codeOk hn0 Go.Proofs.Tryz.f234.ntmps (Go.Proofs.Tryz.f234.body.getD .skip) = true := by kernel_rfl
theorem ck134 : codeOk hn0 Go.Proofs.Tryz.f134.ntmps (Go.Proofs.Tryz.f134.body.getD .skip) = true := by kernel_rfl
theorem ck69 : codeOk hn0 Go.Proofs.Tryz.f69.ntmps (Go.Proofs.Tryz.f69.body.getD .skip) = true := by kernel_rfl
theorem ck302 : codeOk hn0 Go.Proofs.Tryz.f302.ntmps (Go.Proofs.Tryz.f302.body.getD .skip) = true := by kernel_rfl
theorem ck303 : codeOk hn0 Go.Proofs.Tryz.f303.ntmps (Go.Proofs.Tryz.f303.body.getD .skip) = true := by kernel_rfl
theorem ck240 : codeOk hn0 Go.Proofs.Tryz.f240.ntmps (Go.Proofs.Tryz.f240.body.getD .skip) = true := by kernel_rfl
theorem ck242 : codeOk hn0 Go.Proofs.Tryz.f242.ntmps (Go.Proofs.Tryz.f242.body.getD .skip) = true := by kernel_rfl
theorem ck140 : codeOk hn0 Go.Proofs.Tryz.f140.ntmps (Go.Proofs.Tryz.f140.body.getD .skip) = true := by kernel_rfl
theorem ck137 : codeOk hn0 Go.Proofs.Tryz.f137.ntmps (Go.Proofs.Tryz.f137.body.getD .skip) = true := by kernel_rfl
theorem ck235 : codeOk hn0 Go.Proofs.Tryz.f235.ntmps (Go.Proofs.Tryz.f235.body.getD .skip) = true := by kernel_rfl
theorem ck300 : codeOk hn0 Go.Proofs.Tryz.f300.ntmps (Go.Proofs.Tryz.f300.body.getD .skip) = true := by kernel_rfl
theorem ck237 : codeOk hn0 Go.Proofs.Tryz.f237.ntmps (Go.Proofs.Tryz.f237.body.getD .skip) = true := by kernel_rfl
theorem ck236 : codeOk hn0 Go.Proofs.Tryz.f236.ntmps (Go.Proofs.Tryz.f236.body.getD .skip) = true := by kernel_rfl
theorem ck139 : codeOk hn0 Go.Proofs.Tryz.f139.ntmps (Go.Proofs.Tryz.f139.body.getD .skip) = true := by kernel_rfl
theorem ck141 : codeOk hn0 Go.Proofs.Tryz.f141.ntmps (Go.Proofs.Tryz.f141.body.getD .skip) = true := by kernel_rfl
theorem ck145 : codeOk hn0 Go.Proofs.Tryz.f145.ntmps (Go.Proofs.Tryz.f145.body.getD .skip) = true := by kernel_rfl
theorem ck109 : codeOk hn0 Go.Proofs.Tryz.f109.ntmps (Go.Proofs.Tryz.f109.body.getD .skip) = true := by kernel_rfl
theorem ck135 : codeOk hn0 Go.Proofs.Tryz.f135.ntmps (Go.Proofs.Tryz.f135.body.getD .skip) = true := by kernel_rfl
theorem ck64 : codeOk hn0 Go.Proofs.Tryz.f64.ntmps (Go.Proofs.Tryz.f64.body.getD .skip) = true := by kernel_rfl
theorem ck150 : codeOk hn0 Go.Proofs.Tryz.f150.ntmps (Go.Proofs.Tryz.f150.body.getD .skip) = true := by kernel_rfl
theorem ck136 : codeOk hn0 Go.Proofs.Tryz.f136.ntmps (Go.Proofs.Tryz.f136.body.getD .skip) = true := by kernel_rfl
theorem ck65 : codeOk hn0 Go.Proofs.Tryz.f65.ntmps (Go.Proofs.Tryz.f65.body.getD .skip) = true := by kernel_rfl
theorem ck142 : codeOk hn0 Go.Proofs.Tryz.f142.ntmps (Go.Proofs.Tryz.f142.body.getD .skip) = true := by kernel_rfl
theorem ck143 : codeOk hn0 Go.Proofs.Tryz.f143.ntmps (Go.Proofs.Tryz.f143.body.getD .skip) = true := by kernel_rfl
theorem ck246 : codeOk hn0 Go.Proofs.Tryz.f246.ntmps (Go.Proofs.Tryz.f246.body.getD .skip) = true := by kernel_rfl
theorem ck368 : codeOk hn0 Go.Proofs.Tryz.f368.ntmps (Go.Proofs.Tryz.f368.body.getD .skip) = true := by kernel_rfl
theorem ck369 : codeOk hn0 Go.Proofs.Tryz.f369.ntmps (Go.Proofs.Tryz.f369.body.getD .skip) = true := by kernel_rfl
theorem ck350 : codeOk hn0 Go.Proofs.Tryz.f350.ntmps (Go.Proofs.Tryz.f350.body.getD .skip) = true := by kernel_rfl
theorem ck306 : codeOk hn0 Go.Proofs.Tryz.f306.ntmps (Go.Proofs.Tryz.f306.body.getD .skip) = true := by kernel_rfl
theorem ck307 : codeOk hn0 Go.Proofs.Tryz.f307.ntmps (Go.Proofs.Tryz.f307.body.getD .skip) = true := by kernel_rfl
theorem ck247 : codeOk hn0 Go.Proofs.Tryz.f247.ntmps (Go.Proofs.Tryz.f247.body.getD .skip) = true := by kernel_rfl
theorem ck248 : codeOk hn0 Go.Proofs.Tryz.f248.ntmps (Go.Proofs.Tryz.f248.body.getD .skip) = true := by kernel_rfl
theorem ck144 : codeOk hn0 Go.Proofs.Tryz.f144.ntmps (Go.Proofs.Tryz.f144.body.getD .skip) = true := by kernel_rfl
theorem ck68 : codeOk hn0 Go.Proofs.Tryz.f68.ntmps (Go.Proofs.Tryz.f68.body.getD .skip) = true := by kernel_rfl
theorem ck67 : codeOk hn0 Go.Proofs.Tryz.f67.ntmps (Go.Proofs.Tryz.f67.body.getD .skip) = true := by kernel_rfl
theorem ck18 : codeOk hn0 Go.Proofs.Tryz.f18.ntmps (Go.Proofs.Tryz.f18.body.getD .skip) = true := by kernel_rfl
theorem ck34 : codeOk hn0 Go.Proofs.Tryz.f34.ntmps (Go.Proofs.Tryz.f34.body.getD .skip) = true := by kernel_rfl
theorem ck192 : codeOk hn0 Go.Proofs.Tryz.f192.ntmps (Go.Proofs.Tryz.f192.body.getD .skip) = true := by kernel_rfl
theorem ck193 : codeOk hn0 Go.Proofs.Tryz.f193.ntmps (Go.Proofs.Tryz.f193.body.getD .skip) = true := by kernel_rfl
theorem ck379 : codeOk hn0 Go.Proofs.Tryz.f379.ntmps (Go.Proofs.Tryz.f379.body.getD .skip) = true := by kernel_rfl
theorem ck417 : codeOk hn0 Go.Proofs.Tryz.f417.ntmps (Go.Proofs.Tryz.f417.body.getD .skip) = true := by kernel_rfl
theorem ck322 : codeOk hn0 Go.Proofs.Tryz.f322.ntmps (Go.Proofs.Tryz.f322.body.getD .skip) = true := by kernel_rfl
theorem ck425 : codeOk hn0 Go.Proofs.Tryz.f425.ntmps (Go.Proofs.Tryz.f425.body.getD .skip) = true := by kernel_rfl
theorem ck90 : codeOk hn0 Go.Proofs.Tryz.f90.ntmps (Go.Proofs.Tryz.f90.body.getD .skip) = true := by kernel_rfl
theorem ck353 : codeOk hn0 Go.Proofs.Tryz.f353.ntmps (Go.Proofs.Tryz.f353.body.getD .skip) = true := by kernel_rfl
theorem ck380 : codeOk hn0 Go.Proofs.Tryz.f380.ntmps (Go.Proofs.Tryz.f380.body.getD .skip) = true := by kernel_rfl
theorem ck354 : codeOk hn0 Go.Proofs.Tryz.f354.ntmps (Go.Proofs.Tryz.f354.body.getD .skip) = true := by kernel_rfl
theorem ck321 : codeOk hn0 Go.Proofs.Tryz.f321.ntmps (Go.Proofs.Tryz.f321.body.getD .skip) = true := by kernel_rfl
theorem ck416 : codeOk hn0 Go.Proofs.Tryz.f416.ntmps (Go.Proofs.Tryz.f416.body.getD .skip) = true := by kernel_rfl
theorem ck431 : codeOk hn0 Go.Proofs.Tryz.f431.ntmps (Go.Proofs.Tryz.f431.body.getD .skip) = true := by kernel_rfl
theorem ck424 : codeOk hn0 Go.Proofs.Tryz.f424.ntmps (Go.Proofs.Tryz.f424.body.getD .skip) = true := by kernel_rfl
theorem ck35 : codeOk hn0 Go.Proofs.Tryz.f35.ntmps (Go.Proofs.Tryz.f35.body.getD .skip) = true := by kernel_rfl
theorem ck36 : codeOk hn0 Go.Proofs.Tryz.f36.ntmps (Go.Proofs.Tryz.f36.body.getD .skip) = true := by kernel_rfl
theorem ck7 : codeOk hn0 Go.Proofs.Tryz.f7.ntmps (Go.Proofs.Tryz.f7.body.getD .skip) = true := by kernel_rfl
theorem ck194 : codeOk hn0 Go.Proofs.Tryz.f194.ntmps (Go.Proofs.Tryz.f194.body.getD .skip) = true := by kernel_rfl
theorem ck91 : codeOk hn0 Go.Proofs.Tryz.f91.ntmps (Go.Proofs.Tryz.f91.body.getD .skip) = true := by kernel_rfl
theorem ck285 : codeOk hn0 Go.Proofs.Tryz.f285.ntmps (Go.Proofs.Tryz.f285.body.getD .skip) = true := by kernel_rfl
theorem ck286 : codeOk hn0 Go.Proofs.Tryz.f286.ntmps (Go.Proofs.Tryz.f286.body.getD .skip) = true := by kernel_rfl
theorem ck195 : codeOk hn0 Go.Proofs.Tryz.f195.ntmps (Go.Proofs.Tryz.f195.body.getD .skip) = true := by kernel_rfl
theorem ck92 : codeOk hn0 Go.Proofs.Tryz.f92.ntmps (Go.Proofs.Tryz.f92.body.getD .skip) = true := by kernel_rfl
theorem ck37 : codeOk hn0 Go.Proofs.Tryz.f37.ntmps (Go.Proofs.Tryz.f37.body.getD .skip) = true := by kernel_rfl
theorem ck8 : codeOk hn0 Go.Proofs.Tryz.f8.ntmps (Go.Proofs.Tryz.f8.body.getD .skip) = true := by kernel_rfl
theorem ck308 : codeOk hn0 Go.Proofs.Tryz.f308.ntmps (Go.Proofs.Tryz.f308.body.getD .skip) = true := by kernel_rfl
theorem ck250 : codeOk hn0 Go.Proofs.Tryz.f250.ntmps (Go.Proofs.Tryz.f250.body.getD .skip) = true := by kernel_rfl
theorem ck370 : codeOk hn0 Go.Proofs.Tryz.f370.ntmps (Go.Proofs.Tryz.f370.body.getD .skip) = true := by kernel_rfl
theorem ck392 : codeOk hn0 Go.Proofs.Tryz.f392.ntmps (Go.Proofs.Tryz.f392.body.getD .skip) = true := by kernel_rfl
theorem ck371 : codeOk hn0 Go.Proofs.Tryz.f371.ntmps (Go.Proofs.Tryz.f371.body.getD .skip) = true := by kernel_rfl
theorem ck372 : codeOk hn0 Go.Proofs.Tryz.f372.ntmps (Go.Proofs.Tryz.f372.body.getD .skip) = true := by kernel_rfl
theorem ck398 : codeOk hn0 Go.Proofs.Tryz.f398.ntmps (Go.Proofs.Tryz.f398.body.getD .skip) = true := by kernel_rfl
theorem ck394 : codeOk hn0 Go.Proofs.Tryz.f394.ntmps (Go.Proofs.Tryz.f394.body.getD .skip) = true := by kernel_rfl
theorem ck393 : codeOk hn0 Go.Proofs.Tryz.f393.ntmps (Go.Proofs.Tryz.f393.body.getD .skip) = true := by kernel_rfl
theorem ck373 : codeOk hn0 Go.Proofs.Tryz.f373.ntmps (Go.Proofs.Tryz.f373.body.getD .skip) = true := by kernel_rfl
theorem ck374 : codeOk hn0 Go.Proofs.Tryz.f374.ntmps (Go.Proofs.Tryz.f374.body.getD .skip) = true := by kernel_rfl
theorem ck375 : codeOk hn0 Go.Proofs.Tryz.f375.ntmps (Go.Proofs.Tryz.f375.body.getD .skip) = true := by kernel_rfl
theorem ck376 : codeOk hn0 Go.Proofs.Tryz.f376.ntmps (Go.Proofs.Tryz.f376.body.getD .skip) = true := by kernel_rfl
theorem ck377 : codeOk hn0 Go.Proofs.Tryz.f377.ntmps (Go.Proofs.Tryz.f377.body.getD .skip) = true := by kernel_rfl
theorem ck351 : codeOk hn0 Go.Proofs.Tryz.f351.ntmps (Go.Proofs.Tryz.f351.body.getD .skip) = true := by kernel_rfl
theorem ck309 : codeOk hn0 Go.Proofs.Tryz.f309.ntmps (Go.Proofs.Tryz.f309.body.getD .skip) = true := by kernel_rfl
theorem ck310 : codeOk hn0 Go.Proofs.Tryz.f310.ntmps (Go.Proofs.Tryz.f310.body.getD .skip) = true := by kernel_rfl
theorem ck251 : codeOk hn0 Go.Proofs.Tryz.f251.ntmps (Go.Proofs.Tryz.f251.body.getD .skip) = true := by kernel_rfl
theorem ck311 : codeOk hn0 Go.Proofs.Tryz.f311.ntmps (Go.Proofs.Tryz.f311.body.getD .skip) = true := by kernel_rfl
theorem ck252 : codeOk hn0 Go.Proofs.Tryz.f252.ntmps (Go.Proofs.Tryz.f252.body.getD .skip) = true := by kernel_rfl
theorem ck146 : codeOk hn0 Go.Proofs.Tryz.f146.ntmps (Go.Proofs.Tryz.f146.body.getD .skip) = true := by kernel_rfl
theorem ck72 : codeOk hn0 Go.Proofs.Tryz.f72.ntmps (Go.Proofs.Tryz.f72.body.getD .skip) = true := by kernel_rfl
theorem ck71 : codeOk hn0 Go.Proofs.Tryz.f71.ntmps (Go.Proofs.Tryz.f71.body.getD .skip) = true := by kernel_rfl
theorem ck19 : codeOk hn0 Go.Proofs.Tryz.f19.ntmps (Go.Proofs.Tryz.f19.body.getD .skip) = true := by kernel_rfl
theorem ck9 : codeOk hn0 Go.Proofs.Tryz.f9.ntmps (Go.Proofs.Tryz.f9.body.getD .skip) = true := by kernel_rfl
theorem ck50 : codeOk hn0 Go.Proofs.Tryz.f50.ntmps (Go.Proofs.Tryz.f50.body.getD .skip) = true := by kernel_rfl
theorem ck13 : codeOk hn0 Go.Proofs.Tryz.f13.ntmps (Go.Proofs.Tryz.f13.body.getD .skip) = true := by kernel_rfl
theorem ck14 : codeOk hn0 Go.Proofs.Tryz.f14.ntmps (Go.Proofs.Tryz.f14.body.getD .skip) = true := by kernel_rfl
theorem ck38 : codeOk hn0 Go.Proofs.Tryz.f38.ntmps (Go.Proofs.Tryz.f38.body.getD .skip) = true := by kernel_rfl
theorem ck39 : codeOk hn0 Go.Proofs.Tryz.f39.ntmps (Go.Proofs.Tryz.f39.body.getD .skip) = true := by kernel_rfl
theorem ck41 : codeOk hn0 Go.Proofs.Tryz.f41.ntmps (Go.Proofs.Tryz.f41.body.getD .skip) = true := by kernel_rfl
theorem ck43 : codeOk hn0 Go.Proofs.Tryz.f43.ntmps (Go.Proofs.Tryz.f43.body.getD .skip) = true := by kernel_rfl
theorem ck40 : codeOk hn0 Go.Proofs.Tryz.f40.ntmps (Go.Proofs.Tryz.f40.body.getD .skip) = true := by kernel_rfl
theorem ck10 : codeOk hn0 Go.Proofs.Tryz.f10.ntmps (Go.Proofs.Tryz.f10.body.getD .skip) = true := by kernel_rfl
theorem ck11 : codeOk hn0 Go.Proofs.Tryz.f11.ntmps (Go.Proofs.Tryz.f11.body.getD .skip) = true := by kernel_rfl
theorem ck110 : codeOk hn0 Go.Proofs.Tryz.f110.ntmps (Go.Proofs.Tryz.f110.body.getD .skip) = true := by kernel_rfl
theorem ck20 : codeOk hn0 Go.Proofs.Tryz.f20.ntmps (Go.Proofs.Tryz.f20.body.getD .skip) = true := by kernel_rfl
theorem ck204 : codeOk hn0 Go.Proofs.Tryz.f204.ntmps (Go.Proofs.Tryz.f204.body.getD .skip) = true := by kernel_rfl
theorem ck104 : codeOk hn0 Go.Proofs.Tryz.f104.ntmps (Go.Proofs.Tryz.f104.body.getD .skip) = true := by kernel_rfl
theorem ck47 : codeOk hn0 Go.Proofs.Tryz.f47.ntmps (Go.Proofs.Tryz.f47.body.getD .skip) = true := by kernel_rfl
theorem ck49 : codeOk hn0 Go.Proofs.Tryz.f49.ntmps (Go.Proofs.Tryz.f49.body.getD .skip) = true := by kernel_rfl
theorem ck12 : codeOk hn0 Go.Proofs.Tryz.f12.ntmps (Go.Proofs.Tryz.f12.body.getD .skip) = true := by kernel_rfl
theorem ck53 : codeOk hn0 Go.Proofs.Tryz.f53.ntmps (Go.Proofs.Tryz.f53.body.getD .skip) = true := by kernel_rfl
theorem ck16 : codeOk hn0 Go.Proofs.Tryz.f16.ntmps (Go.Proofs.Tryz.f16.body.getD .skip) = true := by kernel_rfl
theorem ck52 : codeOk hn0 Go.Proofs.Tryz.f52.ntmps (Go.Proofs.Tryz.f52.body.getD .skip) = true := by kernel_rfl
theorem ck15 : codeOk hn0 Go.Proofs.Tryz.f15.ntmps (Go.Proofs.Tryz.f15.body.getD .skip) = true := by kernel_rfl
theorem ck3 : codeOk hn0 Go.Proofs.Tryz.f3.ntmps (Go.Proofs.Tryz.f3.body.getD .skip) = true := by kernel_rfl
theorem fnAll : FnAll Go.Proofs.Tryz.prog fnl := .code (c := Go.Proofs.Tryz.f98.body.getD .skip) Go.Proofs.Tryz.func98 rfl ck98 Go.Proofs.Tryz.call98 (.code (c := Go.Proofs.Tryz.f88.body.getD .skip) Go.Proofs.Tryz.func88 rfl ck88 Go.Proofs.Tryz.call88 (.code (c := Go.Proofs.Tryz.f32.body.getD .skip) Go.Proofs.Tryz.func32 rfl ck32 Go.Proofs.Tryz.call32 (.code (c := Go.Proofs.Tryz.f21.body.getD .skip) Go.Proofs.Tryz.func21 rfl ck21 Go.Proofs.Tryz.call21 (.code (c := Go.Proofs.Tryz.f105.body.getD .skip) Go.Proofs.Tryz.func105 rfl ck105 Go.Proofs.Tryz.call105 (.code (c := Go.Proofs.Tryz.f270.body.getD .skip) Go.Proofs.Tryz.func270 rfl ck270 Go.Proofs.Tryz.call270 (.code (c := Go.Proofs.Tryz.f172.body.getD .skip) Go.Proofs.Tryz.func172 rfl ck172 Go.Proofs.Tryz.call172 (.intr (.code (c := Go.Proofs.Tryz.f180.body.getD .skip) Go.Proofs.Tryz.func180 rfl ck180 Go.Proofs.Tryz.call180 (.code (c := Go.Proofs.Tryz.f290.body.getD .skip) Go.Proofs.Tryz.func290 rfl ck290 Go.Proofs.Tryz.call290 (.code (c := Go.Proofs.Tryz.f210.body.getD .skip) Go.Proofs.Tryz.func210 rfl ck210 Go.Proofs.Tryz.call210 (.code (c := Go.Proofs.Tryz.f186.body.getD .skip) Go.Proofs.Tryz.func186 rfl ck186 Go.Proofs.Tryz.call186 (.code (c := Go.Proofs.Tryz.f106.body.getD .skip) Go.Proofs.Tryz.func106 rfl ck106 Go.Proofs.Tryz.call106 (.code (c := Go.Proofs.Tryz.f48.body.getD .skip) Go.Proofs.Tryz.func48 rfl ck48 Go.Proofs.Tryz.call48 (.code (c := Go.Proofs.Tryz.f113.body.getD .skip) Go.Proofs.Tryz.func113 rfl ck113 Go.Proofs.Tryz.call113 (.code (c := Go.Proofs.Tryz.f73.body.getD .skip) Go.Proofs.Tryz.func73 rfl ck73 Go.Proofs.Tryz.call73 (.code (c := Go.Proofs.Tryz.f118.body.getD .skip) Go.Proofs.Tryz.func118 rfl ck118 Go.Proofs.Tryz.call118 (.code (c := Go.Proofs.Tryz.f178.body.getD .skip) Go.Proofs.Tryz.func178 rfl ck178 Go.Proofs.Tryz.call178 (.code (c := Go.Proofs.Tryz.f114.body.getD .skip) Go.Proofs.Tryz.func114 rfl ck114 Go.Proofs.Tryz.call114 (.code (c := Go.Proofs.Tryz.f115.body.getD .skip) Go.Proofs.Tryz.func115 rfl ck115 Go.Proofs.Tryz.call115 (.code (c := Go.Proofs.Tryz.f185.body.getD .skip) Go.Proofs.Tryz.func185 rfl ck185 Go.Proofs.Tryz.call185 (.code (c := Go.Proofs.Tryz.f209.body.getD .skip) Go.Proofs.Tryz.func209 rfl ck209 Go.Proofs.Tryz.call209 (.intr (.intr (.code (c := Go.Proofs.Tryz.f295.body.getD .skip) Go.Proofs.Tryz.func295 rfl ck295 Go.Proofs.Tryz.call295 (.code (c := Go.Proofs.Tryz.f214.body.getD .skip) Go.Proofs.Tryz.func214 rfl ck214 Go.Proofs.Tryz.call214 (.code (c := Go.Proofs.Tryz.f345.body.getD .skip) Go.Proofs.Tryz.func345 rfl ck345 Go.Proofs.Tryz.call345 (.code (c := Go.Proofs.Tryz.f297.body.getD .skip) Go.Proofs.Tryz.func297 rfl ck297 Go.Proofs.Tryz.call297 (.code (c := Go.Proofs.Tryz.f298.body.getD .skip) Go.Proofs.Tryz.func298 rfl ck298 Go.Proofs.Tryz.call298 (.code (c := Go.Proofs.Tryz.f225.body.getD .skip) Go.Proofs.Tryz.func225 rfl ck225 Go.Proofs.Tryz.call225 (.code (c := Go.Proofs.Tryz.f211.body.getD .skip) Go.Proofs.Tryz.func211 rfl ck211 Go.Proofs.Tryz.call211 (.code (c := Go.Proofs.Tryz.f291.body.getD .skip) Go.Proofs.Tryz.func291 rfl ck291 Go.Proofs.Tryz.call291 (.code (c := Go.Proofs.Tryz.f292.body.getD .skip) Go.Proofs.Tryz.func292 rfl ck292 Go.Proofs.Tryz.call292 (.code (c := Go.Proofs.Tryz.f218.body.getD .skip) Go.Proofs.Tryz.func218 rfl ck218 Go.Proofs.Tryz.call218 (.code (c := Go.Proofs.Tryz.f219.body.getD .skip) Go.Proofs.Tryz.func219 rfl ck219 Go.Proofs.Tryz.call219 (.code (c := Go.Proofs.Tryz.f282.body.getD .skip) Go.Proofs.Tryz.func282 rfl ck282 Go.Proofs.Tryz.call282 (.code (c := Go.Proofs.Tryz.f283.body.getD .skip) Go.Proofs.Tryz.func283 rfl ck283 Go.Proofs.Tryz.call283 (.code (c := Go.Proofs.Tryz.f220.body.getD .skip) Go.Proofs.Tryz.func220 rfl ck220 Go.Proofs.Tryz.call220 (.code (c := Go.Proofs.Tryz.f120.body.getD .skip) Go.Proofs.Tryz.func120 rfl ck120 Go.Proofs.Tryz.call120 (.code (c := Go.Proofs.Tryz.f339.body.getD .skip) Go.Proofs.Tryz.func339 rfl ck339 Go.Proofs.Tryz.call339 (.code (c := Go.Proofs.Tryz.f293.body.getD .skip) Go.Proofs.Tryz.func293 rfl ck293 Go.Proofs.Tryz.call293 (.code (c := Go.Proofs.Tryz.f274.body.getD .skip) Go.Proofs.Tryz.func274 rfl ck274 Go.Proofs.Tryz.call274 (.code (c := Go.Proofs.Tryz.f296.body.getD .skip) Go.Proofs.Tryz.func296 rfl ck296 Go.Proofs.Tryz.call296 (.code (c := Go.Proofs.Tryz.f271.body.getD .skip) Go.Proofs.Tryz.func271 rfl ck271 Go.Proofs.Tryz.call271 (.code (c := Go.Proofs.Tryz.f333.body.getD .skip) Go.Proofs.Tryz.func333 rfl ck333 Go.Proofs.Tryz.call333 (.code (c := Go.Proofs.Tryz.f275.body.getD .skip) Go.Proofs.Tryz.func275 rfl ck275 Go.Proofs.Tryz.call275 (.intr (.code (c := Go.Proofs.Tryz.f179.body.getD .skip) Go.Proofs.Tryz.func179 rfl ck179 Go.Proofs.Tryz.call179 (.code (c := Go.Proofs.Tryz.f86.body.getD .skip) Go.Proofs.Tryz.func86 rfl ck86 Go.Proofs.Tryz.call86 (.code (c := Go.Proofs.Tryz.f239.body.getD .skip) Go.Proofs.Tryz.func239 rfl ck239 Go.Proofs.Tryz.call239 (.code (c := Go.Proofs.Tryz.f346.body.getD .skip) Go.Proofs.Tryz.func346 rfl ck346 Go.Proofs.Tryz.call346 (.code (c := Go.Proofs.Tryz.f366.body.getD .skip) Go.Proofs.Tryz.func366 rfl ck366 Go.Proofs.Tryz.call366 (.code (c := Go.Proofs.Tryz.f347.body.getD .skip) Go.Proofs.Tryz.func347 rfl ck347 Go.Proofs.Tryz.call347 (.code (c := Go.Proofs.Tryz.f348.body.getD .skip) Go.Proofs.Tryz.func348 rfl ck348 Go.Proofs.Tryz.call348 (.code (c := Go.Proofs.Tryz.f301.body.getD .skip) Go.Proofs.Tryz.func301 rfl ck301 Go.Proofs.Tryz.call301 (.code (c := Go.Proofs.Tryz.f238.body.getD .skip) Go.Proofs.Tryz.func238 rfl ck238 Go.Proofs.Tryz.call238 (.code (c := Go.Proofs.Tryz.f243.body.getD .skip) Go.Proofs.Tryz.func243 rfl ck243 Go.Proofs.Tryz.call243 (.code (c := Go.Proofs.Tryz.f147.body.getD .skip) Go.Proofs.Tryz.func147 rfl ck147 Go.Proofs.Tryz.call147 (.code (c := Go.Proofs.Tryz.f253.body.getD .skip) Go.Proofs.Tryz.func253 rfl ck253 Go.Proofs.Tryz.call253 (.code (c := Go.Proofs.Tryz.f148.body.getD .skip) Go.Proofs.Tryz.func148 rfl ck148 Go.Proofs.Tryz.call148 (.code (c := Go.Proofs.Tryz.f245.body.getD .skip) Go.Proofs.Tryz.func245 rfl ck245 Go.Proofs.Tryz.call245 (.code (c := Go.Proofs.Tryz.f244.body.getD .skip) Go.Proofs.Tryz.func244 rfl ck244 Go.Proofs.Tryz.call244 (.code (c := Go.Proofs.Tryz.f149.body.getD .skip) Go.Proofs.Tryz.func149 rfl ck149 Go.Proofs.Tryz.call149 (.code (c := Go.Proofs.Tryz.f74.body.getD .skip) Go.Proofs.Tryz.func74 rfl ck74 Go.Proofs.Tryz.call74 (.code (c := Go.Proofs.Tryz.f22.body.getD .skip) Go.Proofs.Tryz.func22 rfl ck22 Go.Proofs.Tryz.call22 (.code (c := Go.Proofs.Tryz.f112.body.getD .skip) Go.Proofs.Tryz.func112 rfl ck112 Go.Proofs.Tryz.call112 (.code (c := Go.Proofs.Tryz.f223.body.getD .skip) Go.Proofs.Tryz.func223 rfl ck223 Go.Proofs.Tryz.call223 (.code (c := Go.Proofs.Tryz.f181.body.getD .skip) Go.Proofs.Tryz.func181 rfl ck181 Go.Proofs.Tryz.call181 (.code (c := Go.Proofs.Tryz.f182.body.getD .skip) Go.Proofs.Tryz.func182 rfl ck182 Go.Proofs.Tryz.call182 (.code (c := Go.Proofs.Tryz.f277.body.getD .skip) Go.Proofs.Tryz.func277 rfl ck277 Go.Proofs.Tryz.call277 (.code (c := Go.Proofs.Tryz.f183.body.getD .skip) Go.Proofs.Tryz.func183 rfl ck183 Go.Proofs.Tryz.call183 (.code (c := Go.Proofs.Tryz.f184.body.getD .skip) Go.Proofs.Tryz.func184 rfl ck184 Go.Proofs.Tryz.call184 (.code (c := Go.Proofs.Tryz.f336.body.getD .skip) Go.Proofs.Tryz.func336 rfl ck336 Go.Proofs.Tryz.call336 (.code (c := Go.Proofs.Tryz.f361.body.getD .skip) Go.Proofs.Tryz.func361 rfl ck361 Go.Proofs.Tryz.call361 (.code (c := Go.Proofs.Tryz.f337.body.getD .skip) Go.Proofs.Tryz.func337 rfl ck337 Go.Proofs.Tryz.call337 (.code (c := Go.Proofs.Tryz.f362.body.getD .skip) Go.Proofs.Tryz.func362 rfl ck362 Go.Proofs.Tryz.call362 (.code (c := Go.Proofs.Tryz.f338.body.getD .skip) Go.Proofs.Tryz.func338 rfl ck338 Go.Proofs.Tryz.call338 (.code (c := Go.Proofs.Tryz.f278.body.getD .skip) Go.Proofs.Tryz.func278 rfl ck278 Go.Proofs.Tryz.call278 (.code (c := Go.Proofs.Tryz.f279.body.getD .skip) Go.Proofs.Tryz.func279 rfl ck279 Go.Proofs.Tryz.call279 (.code (c := Go.Proofs.Tryz.f187.body.getD .skip) Go.Proofs.Tryz.func187 rfl ck187 Go.Proofs.Tryz.call187 (.intr (.code (c := Go.Proofs.Tryz.f280.body.getD .skip) Go.Proofs.Tryz.func280 rfl ck280 Go.Proofs.Tryz.call280 (.code (c := Go.Proofs.Tryz.f188.body.getD .skip) Go.Proofs.Tryz.func188 rfl ck188 Go.Proofs.Tryz.call188 (.code (c := Go.Proofs.Tryz.f189.body.getD .skip) Go.Proofs.Tryz.func189 rfl ck189 Go.Proofs.Tryz.call189 (.code (c := Go.Proofs.Tryz.f340.body.getD .skip) Go.Proofs.Tryz.func340 rfl ck340 Go.Proofs.Tryz.call340 (.code (c := Go.Proofs.Tryz.f281.body.getD .skip) Go.Proofs.Tryz.func281 rfl ck281 Go.Proofs.Tryz.call281 (.code (c := Go.Proofs.Tryz.f190.body.getD .skip) Go.Proofs.Tryz.func190 rfl ck190 Go.Proofs.Tryz.call190 (.code (c := Go.Proofs.Tryz.f89.body.getD .skip) Go.Proofs.Tryz.func89 rfl ck89 Go.Proofs.Tryz.call89 (.code (c := Go.Proofs.Tryz.f217.body.getD .skip) Go.Proofs.Tryz.func217 rfl ck217 Go.Proofs.Tryz.call217 (.code (c := Go.Proofs.Tryz.f119.body.getD .skip) Go.Proofs.Tryz.func119 rfl ck119 Go.Proofs.Tryz.call119 (.code (c := Go.Proofs.Tryz.f54.body.getD .skip) Go.Proofs.Tryz.func54 rfl ck54 Go.Proofs.Tryz.call54 (.code (c := Go.Proofs.Tryz.f33.body.getD .skip) Go.Proofs.Tryz.func33 rfl ck33 Go.Proofs.Tryz.call33 (.code (c := Go.Proofs.Tryz.f6.body.getD .skip) Go.Proofs.Tryz.func6 rfl ck6 Go.Proofs.Tryz.call6 (.code (c := Go.Proofs.Tryz.f121.body.getD .skip) Go.Proofs.Tryz.func121 rfl ck121 Go.Proofs.Tryz.call121 (.code (c := Go.Proofs.Tryz.f122.body.getD .skip) Go.Proofs.Tryz.func122 rfl ck122 Go.Proofs.Tryz.call122 (.code (c := Go.Proofs.Tryz.f55.body.getD .skip) Go.Proofs.Tryz.func55 rfl ck55 Go.Proofs.Tryz.call55 (.code (c := Go.Proofs.Tryz.f231.body.getD .skip) Go.Proofs.Tryz.func231 rfl ck231 Go.Proofs.Tryz.call231 (.code (c := Go.Proofs.Tryz.f229.body.getD .skip) Go.Proofs.Tryz.func229 rfl ck229 Go.Proofs.Tryz.call229 (.code (c := Go.Proofs.Tryz.f156.body.getD .skip) Go.Proofs.Tryz.func156 rfl ck156 Go.Proofs.Tryz.call156 (.intr (.code (c := Go.Proofs.Tryz.f230.body.getD .skip) Go.Proofs.Tryz.func230 rfl ck230 Go.Proofs.Tryz.call230 (.code (c := Go.Proofs.Tryz.f232.body.getD .skip) Go.Proofs.Tryz.func232 rfl ck232 Go.Proofs.Tryz.call232 (.code (c := Go.Proofs.Tryz.f233.body.getD .skip) Go.Proofs.Tryz.func233 rfl ck233 Go.Proofs.Tryz.call233 (.code (c := Go.Proofs.Tryz.f133.body.getD .skip) Go.Proofs.Tryz.func133 rfl ck133 Go.Proofs.Tryz.call133 (.code (c := Go.Proofs.Tryz.f60.body.getD .skip) Go.Proofs.Tryz.func60 rfl ck60 Go.Proofs.Tryz.call60 (.code (c := Go.Proofs.Tryz.f284.body.getD .skip) Go.Proofs.Tryz.func284 rfl ck284 Go.Proofs.Tryz.call284 (.code (c := Go.Proofs.Tryz.f343.body.getD .skip) Go.Proofs.Tryz.func343 rfl ck343 Go.Proofs.Tryz.call343 (.code (c := Go.Proofs.Tryz.f294.body.getD .skip) Go.Proofs.Tryz.func294 rfl ck294 Go.Proofs.Tryz.call294 (.code (c := Go.Proofs.Tryz.f212.body.getD .skip) Go.Proofs.Tryz.func212 rfl ck212 Go.Proofs.Tryz.call212 (.code (c := Go.Proofs.Tryz.f116.body.getD .skip) Go.Proofs.Tryz.func116 rfl ck116 Go.Proofs.Tryz.call116 (.code (c := Go.Proofs.Tryz.f215.body.getD .skip) Go.Proofs.Tryz.func215 rfl ck215 Go.Proofs.Tryz.call215 (.code (c := Go.Proofs.Tryz.f117.body.getD .skip) Go.Proofs.Tryz.func117 rfl ck117 Go.Proofs.Tryz.call117 (.code (c := Go.Proofs.Tryz.f51.body.getD .skip) Go.Proofs.Tryz.func51 rfl ck51 Go.Proofs.Tryz.call51 (.intr (.code (c := Go.Proofs.Tryz.f263.body.getD .skip) Go.Proofs.Tryz.func263 rfl ck263 Go.Proofs.Tryz.call263 (.code (c := Go.Proofs.Tryz.f264.body.getD .skip) Go.Proofs.Tryz.func264 rfl ck264 Go.Proofs.Tryz.call264 (.code (c := Go.Proofs.Tryz.f260.body.getD .skip) Go.Proofs.Tryz.func260 rfl ck260 Go.Proofs.Tryz.call260 (.code (c := Go.Proofs.Tryz.f261.body.getD .skip) Go.Proofs.Tryz.func261 rfl ck261 Go.Proofs.Tryz.call261 (.code (c := Go.Proofs.Tryz.f265.body.getD .skip) Go.Proofs.Tryz.func265 rfl ck265 Go.Proofs.Tryz.call265 (.code (c := Go.Proofs.Tryz.f165.body.getD .skip) Go.Proofs.Tryz.func165 rfl ck165 Go.Proofs.Tryz.call165 (.code (c := Go.Proofs.Tryz.f174.body.getD .skip) Go.Proofs.Tryz.func174 rfl ck174 Go.Proofs.Tryz.call174 (.code (c := Go.Proofs.Tryz.f315.body.getD .skip) Go.Proofs.Tryz.func315 rfl ck315 Go.Proofs.Tryz.call315 (.code (c := Go.Proofs.Tryz.f262.body.getD .skip) Go.Proofs.Tryz.func262 rfl ck262 Go.Proofs.Tryz.call262 (.code (c := Go.Proofs.Tryz.f318.body.getD .skip) Go.Proofs.Tryz.func318 rfl ck318 Go.Proofs.Tryz.call318 (.code (c := Go.Proofs.Tryz.f317.body.getD .skip) Go.Proofs.Tryz.func317 rfl ck317 Go.Proofs.Tryz.call317 (.code (c := Go.Proofs.Tryz.f266.body.getD .skip) Go.Proofs.Tryz.func266 rfl ck266 Go.Proofs.Tryz.call266 (.code (c := Go.Proofs.Tryz.f167.body.getD .skip) Go.Proofs.Tryz.func167 rfl ck167 Go.Proofs.Tryz.call167 (.code (c := Go.Proofs.Tryz.f319.body.getD .skip) Go.Proofs.Tryz.func319 rfl ck319 Go.Proofs.Tryz.call319 (.code (c := Go.Proofs.Tryz.f267.body.getD .skip) Go.Proofs.Tryz.func267 rfl ck267 Go.Proofs.Tryz.call267 (.code (c := Go.Proofs.Tryz.f168.body.getD .skip) Go.Proofs.Tryz.func168 rfl ck168 Go.Proofs.Tryz.call168 (.code (c := Go.Proofs.Tryz.f138.body.getD .skip) Go.Proofs.Tryz.func138 rfl ck138 Go.Proofs.Tryz.call138 (.code (c := Go.Proofs.Tryz.f221.body.getD .skip) Go.Proofs.Tryz.func221 rfl ck221 Go.Proofs.Tryz.call221 (.code (c := Go.Proofs.Tryz.f123.body.getD .skip) Go.Proofs.Tryz.func123 rfl ck123 Go.Proofs.Tryz.call123 (.code (c := Go.Proofs.Tryz.f126.body.getD .skip) Go.Proofs.Tryz.func126 rfl ck126 Go.Proofs.Tryz.call126 (.code (c := Go.Proofs.Tryz.f132.body.getD .skip) Go.Proofs.Tryz.func132 rfl ck132 Go.Proofs.Tryz.call132 (.code (c := Go.Proofs.Tryz.f256.body.getD .skip) Go.Proofs.Tryz.func256 rfl ck256 Go.Proofs.Tryz.call256 (.code (c := Go.Proofs.Tryz.f258.body.getD .skip) Go.Proofs.Tryz.func258 rfl ck258 Go.Proofs.Tryz.call258 (.code (c := Go.Proofs.Tryz.f159.body.getD .skip) Go.Proofs.Tryz.func159 rfl ck159 Go.Proofs.Tryz.call159 (.code (c := Go.Proofs.Tryz.f257.body.getD .skip) Go.Proofs.Tryz.func257 rfl ck257 Go.Proofs.Tryz.call257 (.code (c := Go.Proofs.Tryz.f157.body.getD .skip) Go.Proofs.Tryz.func157 rfl ck157 Go.Proofs.Tryz.call157 (.code (c := Go.Proofs.Tryz.f259.body.getD .skip) Go.Proofs.Tryz.func259 rfl ck259 Go.Proofs.Tryz.call259 (.code (c := Go.Proofs.Tryz.f158.body.getD .skip) Go.Proofs.Tryz.func158 rfl ck158 Go.Proofs.Tryz.call158 (.code (c := Go.Proofs.Tryz.f160.body.getD .skip) Go.Proofs.Tryz.func160 rfl ck160 Go.Proofs.Tryz.call160 (.code (c := Go.Proofs.Tryz.f79.body.getD .skip) Go.Proofs.Tryz.func79 rfl ck79 Go.Proofs.Tryz.call79 (.code (c := Go.Proofs.Tryz.f197.body.getD .skip) Go.Proofs.Tryz.func197 rfl ck197 Go.Proofs.Tryz.call197 (.code (c := Go.Proofs.Tryz.f95.body.getD .skip) Go.Proofs.Tryz.func95 rfl ck95 Go.Proofs.Tryz.call95 (.code (c := Go.Proofs.Tryz.f96.body.getD .skip) Go.Proofs.Tryz.func96 rfl ck96 Go.Proofs.Tryz.call96 (.code (c := Go.Proofs.Tryz.f199.body.getD .skip) Go.Proofs.Tryz.func199 rfl ck199 Go.Proofs.Tryz.call199 (.code (c := Go.Proofs.Tryz.f200.body.getD .skip) Go.Proofs.Tryz.func200 rfl ck200 Go.Proofs.Tryz.call200 (.intr (.code (c := Go.Proofs.Tryz.f331.body.getD .skip) Go.Proofs.Tryz.func331 rfl ck331 Go.Proofs.Tryz.call331 (.code (c := Go.Proofs.Tryz.f332.body.getD .skip) Go.Proofs.Tryz.func332 rfl ck332 Go.Proofs.Tryz.call332 (.code (c := Go.Proofs.Tryz.f273.body.getD .skip) Go.Proofs.Tryz.func273 rfl ck273 Go.Proofs.Tryz.call273 (.code (c := Go.Proofs.Tryz.f383.body.getD .skip) Go.Proofs.Tryz.func383 rfl ck383 Go.Proofs.Tryz.call383 (.code (c := Go.Proofs.Tryz.f395.body.getD .skip) Go.Proofs.Tryz.func395 rfl ck395 Go.Proofs.Tryz.call395 (.code (c := Go.Proofs.Tryz.f384.body.getD .skip) Go.Proofs.Tryz.func384 rfl ck384 Go.Proofs.Tryz.call384 (.code (c := Go.Proofs.Tryz.f356.body.getD .skip) Go.Proofs.Tryz.func356 rfl ck356 Go.Proofs.Tryz.call356 (.code (c := Go.Proofs.Tryz.f357.body.getD .skip) Go.Proofs.Tryz.func357 rfl ck357 Go.Proofs.Tryz.call357 (.code (c := Go.Proofs.Tryz.f385.body.getD .skip) Go.Proofs.Tryz.func385 rfl ck385 Go.Proofs.Tryz.call385 (.code (c := Go.Proofs.Tryz.f399.body.getD .skip) Go.Proofs.Tryz.func399 rfl ck399 Go.Proofs.Tryz.call399 (.code (c := Go.Proofs.Tryz.f397.body.getD .skip) Go.Proofs.Tryz.func397 rfl ck397 Go.Proofs.Tryz.call397 (.code (c := Go.Proofs.Tryz.f396.body.getD .skip) Go.Proofs.Tryz.func396 rfl ck396 Go.Proofs.Tryz.call396 (.code (c := Go.Proofs.Tryz.f386.body.getD .skip) Go.Proofs.Tryz.func386 rfl ck386 Go.Proofs.Tryz.call386 (.code (c := Go.Proofs.Tryz.f387.body.getD .skip) Go.Proofs.Tryz.func387 rfl ck387 Go.Proofs.Tryz.call387 (.code (c := Go.Proofs.Tryz.f388.body.getD .skip) Go.Proofs.Tryz.func388 rfl ck388 Go.Proofs.Tryz.call388 (.code (c := Go.Proofs.Tryz.f389.body.getD .skip) Go.Proofs.Tryz.func389 rfl ck389 Go.Proofs.Tryz.call389 (.code (c := Go.Proofs.Tryz.f390.body.getD .skip) Go.Proofs.Tryz.func390 rfl ck390 Go.Proofs.Tryz.call390 (.code (c := Go.Proofs.Tryz.f363.body.getD .skip) Go.Proofs.Tryz.func363 rfl ck363 Go.Proofs.Tryz.call363 (.code (c := Go.Proofs.Tryz.f341.body.getD .skip) Go.Proofs.Tryz.func341 rfl ck341 Go.Proofs.Tryz.call341 (.code (c := Go.Proofs.Tryz.f342.body.getD .skip) Go.Proofs.Tryz.func342 rfl ck342 Go.Proofs.Tryz.call342 (.code (c := Go.Proofs.Tryz.f288.body.getD .skip) Go.Proofs.Tryz.func288 rfl ck288 Go.Proofs.Tryz.call288 (.code (c := Go.Proofs.Tryz.f196.body.getD .skip) Go.Proofs.Tryz.func196 rfl ck196 Go.Proofs.Tryz.call196 (.code (c := Go.Proofs.Tryz.f94.body.getD .skip) Go.Proofs.Tryz.func94 rfl ck94 Go.Proofs.Tryz.call94 (.code (c := Go.Proofs.Tryz.f97.body.getD .skip) Go.Proofs.Tryz.func97 rfl ck97 Go.Proofs.Tryz.call97 (.code (c := Go.Proofs.Tryz.f44.body.getD .skip) Go.Proofs.Tryz.func44 rfl ck44 Go.Proofs.Tryz.call44 (.code (c := Go.Proofs.Tryz.f93.body.getD .skip) Go.Proofs.Tryz.func93 rfl ck93 Go.Proofs.Tryz.call93 (.code (c := Go.Proofs.Tryz.f205.body.getD .skip) Go.Proofs.Tryz.func205 rfl ck205 Go.Proofs.Tryz.call205 (.code (c := Go.Proofs.Tryz.f107.body.getD .skip) Go.Proofs.Tryz.func107 rfl ck107 Go.Proofs.Tryz.call107 (.code (c := Go.Proofs.Tryz.f124.body.getD .skip) Go.Proofs.Tryz.func124 rfl ck124 Go.Proofs.Tryz.call124 (.code (c := Go.Proofs.Tryz.f125.body.getD .skip) Go.Proofs.Tryz.func125 rfl ck125 Go.Proofs.Tryz.call125 (.code (c := Go.Proofs.Tryz.f56.body.getD .skip) Go.Proofs.Tryz.func56 rfl ck56 Go.Proofs.Tryz.call56 (.code (c := Go.Proofs.Tryz.f222.body.getD .skip) Go.Proofs.Tryz.func222 rfl ck222 Go.Proofs.Tryz.call222 (.code (c := Go.Proofs.Tryz.f127.body.getD .skip) Go.Proofs.Tryz.func127 rfl ck127 Go.Proofs.Tryz.call127 (.code (c := Go.Proofs.Tryz.f57.body.getD .skip) Go.Proofs.Tryz.func57 rfl ck57 Go.Proofs.Tryz.call57 (.code (c := Go.Proofs.Tryz.f224.body.getD .skip) Go.Proofs.Tryz.func224 rfl ck224 Go.Proofs.Tryz.call224 (.intr (.code (c := Go.Proofs.Tryz.f227.body.getD .skip) Go.Proofs.Tryz.func227 rfl ck227 Go.Proofs.Tryz.call227 (.code (c := Go.Proofs.Tryz.f129.body.getD .skip) Go.Proofs.Tryz.func129 rfl ck129 Go.Proofs.Tryz.call129 (.code (c := Go.Proofs.Tryz.f128.body.getD .skip) Go.Proofs.Tryz.func128 rfl ck128 Go.Proofs.Tryz.call128 (.code (c := Go.Proofs.Tryz.f58.body.getD .skip) Go.Proofs.Tryz.func58 rfl ck58 Go.Proofs.Tryz.call58 (.code (c := Go.Proofs.Tryz.f131.body.getD .skip) Go.Proofs.Tryz.func131 rfl ck131 Go.Proofs.Tryz.call131 (.code (c := Go.Proofs.Tryz.f59.body.getD .skip) Go.Proofs.Tryz.func59 rfl ck59 Go.Proofs.Tryz.call59 (.code (c := Go.Proofs.Tryz.f61.body.getD .skip) Go.Proofs.Tryz.func61 rfl ck61 Go.Proofs.Tryz.call61 (.code (c := Go.Proofs.Tryz.f62.body.getD .skip) Go.Proofs.Tryz.func62 rfl ck62 Go.Proofs.Tryz.call62 (.code (c := Go.Proofs.Tryz.f63.body.getD .skip) Go.Proofs.Tryz.func63 rfl ck63 Go.Proofs.Tryz.call63 (.code (c := Go.Proofs.Tryz.f101.body.getD .skip) Go.Proofs.Tryz.func101 rfl ck101 Go.Proofs.Tryz.call101 (.code (c := Go.Proofs.Tryz.f198.body.getD .skip) Go.Proofs.Tryz.func198 rfl ck198 Go.Proofs.Tryz.call198 (.code (c := Go.Proofs.Tryz.f99.body.getD .skip) Go.Proofs.Tryz.func99 rfl ck99 Go.Proofs.Tryz.call99 (.code (c := Go.Proofs.Tryz.f45.body.getD .skip) Go.Proofs.Tryz.func45 rfl ck45 Go.Proofs.Tryz.call45 (.code (c := Go.Proofs.Tryz.f100.body.getD .skip) Go.Proofs.Tryz.func100 rfl ck100 Go.Proofs.Tryz.call100 (.code (c := Go.Proofs.Tryz.f202.body.getD .skip) Go.Proofs.Tryz.func202 rfl ck202 Go.Proofs.Tryz.call202 (.code (c := Go.Proofs.Tryz.f203.body.getD .skip) Go.Proofs.Tryz.func203 rfl ck203 Go.Proofs.Tryz.call203 (.code (c := Go.Proofs.Tryz.f201.body.getD .skip) Go.Proofs.Tryz.func201 rfl ck201 Go.Proofs.Tryz.call201 (.code (c := Go.Proofs.Tryz.f102.body.getD .skip) Go.Proofs.Tryz.func102 rfl ck102 Go.Proofs.Tryz.call102 (.code (c := Go.Proofs.Tryz.f103.body.getD .skip) Go.Proofs.Tryz.func103 rfl ck103 Go.Proofs.Tryz.call103 (.code (c := Go.Proofs.Tryz.f46.body.getD .skip) Go.Proofs.Tryz.func46 rfl ck46 Go.Proofs.Tryz.call46 (.code (c := Go.Proofs.Tryz.f206.body.getD .skip) Go.Proofs.Tryz.func206 rfl ck206 Go.Proofs.Tryz.call206 (.code (c := Go.Proofs.Tryz.f207.body.getD .skip) Go.Proofs.Tryz.func207 rfl ck207 Go.Proofs.Tryz.call207 (.code (c := Go.Proofs.Tryz.f108.body.getD .skip) Go.Proofs.Tryz.func108 rfl ck108 Go.Proofs.Tryz.call108 (.code (c := Go.Proofs.Tryz.f66.body.getD .skip) Go.Proofs.Tryz.func66 rfl ck66 Go.Proofs.Tryz.call66 (.code (c := Go.Proofs.Tryz.f42.body.getD .skip) Go.Proofs.Tryz.func42 rfl ck42 Go.Proofs.Tryz.call42 (.code (c := Go.Proofs.Tryz.f289.body.getD .skip) Go.Proofs.Tryz.func289 rfl ck289 Go.Proofs.Tryz.call289 (.code (c := Go.Proofs.Tryz.f208.body.getD .skip) Go.Proofs.Tryz.func208 rfl ck208 Go.Proofs.Tryz.call208 (.code (c := Go.Proofs.Tryz.f111.body.getD .skip) Go.Proofs.Tryz.func111 rfl ck111 Go.Proofs.Tryz.call111 (.code (c := Go.Proofs.Tryz.f70.body.getD .skip) Go.Proofs.Tryz.func70 rfl ck70 Go.Proofs.Tryz.call70 (.code (c := Go.Proofs.Tryz.f234.body.getD .skip) Go.Proofs.Tryz.func234 rfl ck234 Go.Proofs.Tryz.call234 (.code (c := Go.Proofs.Tryz.f134.body.getD .skip) Go.Proofs.Tryz.func134 rfl ck134 Go.Proofs.Tryz.call134 (.code (c := Go.Proofs.Tryz.f69.body.getD .skip) Go.Proofs.Tryz.func69 rfl ck69 Go.Proofs.Tryz.call69 (.code (c := Go.Proofs.Tryz.f302.body.getD .skip) Go.Proofs.Tryz.func302 rfl ck302 Go.Proofs.Tryz.call302 (.code (c := Go.Proofs.Tryz.f303.body.getD .skip) Go.Proofs.Tryz.func303 rfl ck303 Go.Proofs.Tryz.call303 (.code (c := Go.Proofs.Tryz.f240.body.getD .skip) Go.Proofs.Tryz.func240 rfl ck240 Go.Proofs.Tryz.call240 (.intr (.code (c := Go.Proofs.Tryz.f242.body.getD .skip) Go.Proofs.Tryz.func242 rfl ck242 Go.Proofs.Tryz.call242 (.code (c := Go.Proofs.Tryz.f140.body.getD .skip) Go.Proofs.Tryz.func140 rfl ck140 Go.Proofs.Tryz.call140 (.code (c := Go.Proofs.Tryz.f137.body.getD .skip) Go.Proofs.Tryz.func137 rfl ck137 Go.Proofs.Tryz.call137 (.code (c := Go.Proofs.Tryz.f235.body.getD .skip) Go.Proofs.Tryz.func235 rfl ck235 Go.Proofs.Tryz.call235 (.code (c := Go.Proofs.Tryz.f300.body.getD .skip) Go.Proofs.Tryz.func300 rfl ck300 Go.Proofs.Tryz.call300 (.code (c := Go.Proofs.Tryz.f237.body.getD .skip) Go.Proofs.Tryz.func237 rfl ck237 Go.Proofs.Tryz.call237 (.code (c := Go.Proofs.Tryz.f236.body.getD .skip) Go.Proofs.Tryz.func236 rfl ck236 Go.Proofs.Tryz.call236 (.code (c := Go.Proofs.Tryz.f139.body.getD .skip) Go.Proofs.Tryz.func139 rfl ck139 Go.Proofs.Tryz.call139 (.code (c := Go.Proofs.Tryz.f141.body.getD .skip) Go.Proofs.Tryz.func141 rfl ck141 Go.Proofs.Tryz.call141 (.intr (.code (c := Go.Proofs.Tryz.f145.body.getD .skip) Go.Proofs.Tryz.func145 rfl ck145 Go.Proofs.Tryz.call145 (.code (c := Go.Proofs.Tryz.f109.body.getD .skip) Go.Proofs.Tryz.func109 rfl ck109 Go.Proofs.Tryz.call109 (.code (c := Go.Proofs.Tryz.f135.body.getD .skip) Go.Proofs.Tryz.func135 rfl ck135 Go.Proofs.Tryz.call135 (.code (c := Go.Proofs.Tryz.f64.body.getD .skip) Go.Proofs.Tryz.func64 rfl ck64 Go.Proofs.Tryz.call64 (.code (c := Go.Proofs.Tryz.f150.body.getD .skip) Go.Proofs.Tryz.func150 rfl ck150 Go.Proofs.Tryz.call150 (.code (c := Go.Proofs.Tryz.f136.body.getD .skip) Go.Proofs.Tryz.func136 rfl ck136 Go.Proofs.Tryz.call136 (.code (c := Go.Proofs.Tryz.f65.body.getD .skip) Go.Proofs.Tryz.func65 rfl ck65 Go.Proofs.Tryz.call65 (.code (c := Go.Proofs.Tryz.f142.body.getD .skip) Go.Proofs.Tryz.func142 rfl ck142 Go.Proofs.Tryz.call142 (.code (c := Go.Proofs.Tryz.f143.body.getD .skip) Go.Proofs.Tryz.func143 rfl ck143 Go.Proofs.Tryz.call143 (.code (c := Go.Proofs.Tryz.f246.body.getD .skip) Go.Proofs.Tryz.func246 rfl ck246 Go.Proofs.Tryz.call246 (.code (c := Go.Proofs.Tryz.f368.body.getD .skip) Go.Proofs.Tryz.func368 rfl ck368 Go.Proofs.Tryz.call368 (.code (c := Go.Proofs.Tryz.f369.body.getD .skip) Go.Proofs.Tryz.func369 rfl ck369 Go.Proofs.Tryz.call369 (.code (c := Go.Proofs.Tryz.f350.body.getD .skip) Go.Proofs.Tryz.func350 rfl ck350 Go.Proofs.Tryz.call350 (.code (c := Go.Proofs.Tryz.f306.body.getD .skip) Go.Proofs.Tryz.func306 rfl ck306 Go.Proofs.Tryz.call306 (.code (c := Go.Proofs.Tryz.f307.body.getD .skip) Go.Proofs.Tryz.func307 rfl ck307 Go.Proofs.Tryz.call307 (.code (c := Go.Proofs.Tryz.f247.body.getD .skip) Go.Proofs.Tryz.func247 rfl ck247 Go.Proofs.Tryz.call247 (.code (c := Go.Proofs.Tryz.f248.body.getD .skip) Go.Proofs.Tryz.func248 rfl ck248 Go.Proofs.Tryz.call248 (.code (c := Go.Proofs.Tryz.f144.body.getD .skip) Go.Proofs.Tryz.func144 rfl ck144 Go.Proofs.Tryz.call144 (.code (c := Go.Proofs.Tryz.f68.body.getD .skip) Go.Proofs.Tryz.func68 rfl ck68 Go.Proofs.Tryz.call68 (.code (c := Go.Proofs.Tryz.f67.body.getD .skip) Go.Proofs.Tryz.func67 rfl ck67 Go.Proofs.Tryz.call67 (.code (c := Go.Proofs.Tryz.f18.body.getD .skip) Go.Proofs.Tryz.func18 rfl ck18 Go.Proofs.Tryz.call18 (.code (c := Go.Proofs.Tryz.f34.body.getD .skip) Go.Proofs.Tryz.func34 rfl ck34 Go.Proofs.Tryz.call34 (.code (c := Go.Proofs.Tryz.f192.body.getD .skip) Go.Proofs.Tryz.func192 rfl ck192 Go.Proofs.Tryz.call192 (.code (c := Go.Proofs.Tryz.f193.body.getD .skip) Go.Proofs.Tryz.func193 rfl ck193 Go.Proofs.Tryz.call193 (.code (c := Go.Proofs.Tryz.f379.body.getD .skip) Go.Proofs.Tryz.func379 rfl ck379 Go.Proofs.Tryz.call379 (.code (c := Go.Proofs.Tryz.f417.body.getD .skip) Go.Proofs.Tryz.func417 rfl ck417 Go.Proofs.Tryz.call417 (.code (c := Go.Proofs.Tryz.f322.body.getD .skip) Go.Proofs.Tryz.func322 rfl ck322 Go.Proofs.Tryz.call322 (.code (c := Go.Proofs.Tryz.f425.body.getD .skip) Go.Proofs.Tryz.func425 rfl ck425 Go.Proofs.Tryz.call425 (.code (c := Go.Proofs.Tryz.f90.body.getD .skip) Go.Proofs.Tryz.func90 rfl ck90 Go.Proofs.Tryz.call90 (.code (c := Go.Proofs.Tryz.f353.body.getD .skip) Go.Proofs.Tryz.func353 rfl ck353 Go.Proofs.Tryz.call353 (.code (c := Go.Proofs.Tryz.f380.body.getD .skip) Go.Proofs.Tryz.func380 rfl ck380 Go.Proofs.Tryz.call380 (.code (c := Go.Proofs.Tryz.f354.body.getD .skip) Go.Proofs.Tryz.func354 rfl ck354 Go.Proofs.Tryz.call354 (.code (c := Go.Proofs.Tryz.f321.body.getD .skip) Go.Proofs.Tryz.func321 rfl ck321 Go.Proofs.Tryz.call321 (.code (c := Go.Proofs.Tryz.f416.body.getD .skip) Go.Proofs.Tryz.func416 rfl ck416 Go.Proofs.Tryz.call416 (.code (c := Go.Proofs.Tryz.f431.body.getD .skip) Go.Proofs.Tryz.func431 rfl ck431 Go.Proofs.Tryz.call431 (.code (c := Go.Proofs.Tryz.f424.body.getD .skip) Go.Proofs.Tryz.func424 rfl ck424 Go.Proofs.Tryz.call424 (.code (c := Go.Proofs.Tryz.f35.body.getD .skip) Go.Proofs.Tryz.func35 rfl ck35 Go.Proofs.Tryz.call35 (.code (c := Go.Proofs.Tryz.f36.body.getD .skip) Go.Proofs.Tryz.func36 rfl ck36 Go.Proofs.Tryz.call36 (.code (c := Go.Proofs.Tryz.f7.body.getD .skip) Go.Proofs.Tryz.func7 rfl ck7 Go.Proofs.Tryz.call7 (.code (c := Go.Proofs.Tryz.f194.body.getD .skip) Go.Proofs.Tryz.func194 rfl ck194 Go.Proofs.Tryz.call194 (.code (c := Go.Proofs.Tryz.f91.body.getD .skip) Go.Proofs.Tryz.func91 rfl ck91 Go.Proofs.Tryz.call91 (.code (c := Go.Proofs.Tryz.f285.body.getD .skip) Go.Proofs.Tryz.func285 rfl ck285 Go.Proofs.Tryz.call285 (.code (c := Go.Proofs.Tryz.f286.body.getD .skip) Go.Proofs.Tryz.func286 rfl ck286 Go.Proofs.Tryz.call286 (.code (c := Go.Proofs.Tryz.f195.body.getD .skip) Go.Proofs.Tryz.func195 rfl ck195 Go.Proofs.Tryz.call195 (.code (c := Go.Proofs.Tryz.f92.body.getD .skip) Go.Proofs.Tryz.func92 rfl ck92 Go.Proofs.Tryz.call92 (.code (c := Go.Proofs.Tryz.f37.body.getD .skip) Go.Proofs.Tryz.func37 rfl ck37 Go.Proofs.Tryz.call37 (.code (c := Go.Proofs.Tryz.f8.body.getD .skip) Go.Proofs.Tryz.func8 rfl ck8 Go.Proofs.Tryz.call8 (.code (c := Go.Proofs.Tryz.f308.body.getD .skip) Go.Proofs.Tryz.func308 rfl ck308 Go.Proofs.Tryz.call308 (.code (c := Go.Proofs.Tryz.f250.body.getD .skip) Go.Proofs.Tryz.func250 rfl ck250 Go.Proofs.Tryz.call250 (.code (c := Go.Proofs.Tryz.f370.body.getD .skip) Go.Proofs.Tryz.func370 rfl ck370 Go.Proofs.Tryz.call370 (.code (c := Go.Proofs.Tryz.f392.body.getD .skip) Go.Proofs.Tryz.func392 rfl ck392 Go.Proofs.Tryz.call392 (.code (c := Go.Proofs.Tryz.f371.body.getD .skip) Go.Proofs.Tryz.func371 rfl ck371 Go.Proofs.Tryz.call371 (.code (c := Go.Proofs.Tryz.f372.body.getD .skip) Go.Proofs.Tryz.func372 rfl ck372 Go.Proofs.Tryz.call372 (.code (c := Go.Proofs.Tryz.f398.body.getD .skip) Go.Proofs.Tryz.func398 rfl ck398 Go.Proofs.Tryz.call398 (.code (c := Go.Proofs.Tryz.f394.body.getD .skip) Go.Proofs.Tryz.func394 rfl ck394 Go.Proofs.Tryz.call394 (.code (c := Go.Proofs.Tryz.f393.body.getD .skip) Go.Proofs.Tryz.func393 rfl ck393 Go.Proofs.Tryz.call393 (.code (c := Go.Proofs.Tryz.f373.body.getD .skip) Go.Proofs.Tryz.func373 rfl ck373 Go.Proofs.Tryz.call373 (.code (c := Go.Proofs.Tryz.f374.body.getD .skip) Go.Proofs.Tryz.func374 rfl ck374 Go.Proofs.Tryz.call374 (.code (c := Go.Proofs.Tryz.f375.body.getD .skip) Go.Proofs.Tryz.func375 rfl ck375 Go.Proofs.Tryz.call375 (.code (c := Go.Proofs.Tryz.f376.body.getD .skip) Go.Proofs.Tryz.func376 rfl ck376 Go.Proofs.Tryz.call376 (.code (c := Go.Proofs.Tryz.f377.body.getD .skip) Go.Proofs.Tryz.func377 rfl ck377 Go.Proofs.Tryz.call377 (.code (c := Go.Proofs.Tryz.f351.body.getD .skip) Go.Proofs.Tryz.func351 rfl ck351 Go.Proofs.Tryz.call351 (.code (c := Go.Proofs.Tryz.f309.body.getD .skip) Go.Proofs.Tryz.func309 rfl ck309 Go.Proofs.Tryz.call309 (.code (c := Go.Proofs.Tryz.f310.body.getD .skip) Go.Proofs.Tryz.func310 rfl ck310 Go.Proofs.Tryz.call310 (.code (c := Go.Proofs.Tryz.f251.body.getD .skip) Go.Proofs.Tryz.func251 rfl ck251 Go.Proofs.Tryz.call251 (.code (c := Go.Proofs.Tryz.f311.body.getD .skip) Go.Proofs.Tryz.func311 rfl ck311 Go.Proofs.Tryz.call311 (.code (c := Go.Proofs.Tryz.f252.body.getD .skip) Go.Proofs.Tryz.func252 rfl ck252 Go.Proofs.Tryz.call252 (.code (c := Go.Proofs.Tryz.f146.body.getD .skip) Go.Proofs.Tryz.func146 rfl ck146 Go.Proofs.Tryz.call146 (.code (c := Go.Proofs.Tryz.f72.body.getD .skip) Go.Proofs.Tryz.func72 rfl ck72 Go.Proofs.Tryz.call72 (.code (c := Go.Proofs.Tryz.f71.body.getD .skip) Go.Proofs.Tryz.func71 rfl ck71 Go.Proofs.Tryz.call71 (.code (c := Go.Proofs.Tryz.f19.body.getD .skip) Go.Proofs.Tryz.func19 rfl ck19 Go.Proofs.Tryz.call19 (.code (c := Go.Proofs.Tryz.f9.body.getD .skip) Go.Proofs.Tryz.func9 rfl ck9 Go.Proofs.Tryz.call9 (.code (c := Go.Proofs.Tryz.f50.body.getD .skip) Go.Proofs.Tryz.func50 rfl ck50 Go.Proofs.Tryz.call50 (.code (c := Go.Proofs.Tryz.f13.body.getD .skip) Go.Proofs.Tryz.func13 rfl ck13 Go.Proofs.Tryz.call13 (.code (c := Go.Proofs.Tryz.f14.body.getD .skip) Go.Proofs.Tryz.func14 rfl ck14 Go.Proofs.Tryz.call14 (.code (c := Go.Proofs.Tryz.f38.body.getD .skip) Go.Proofs.Tryz.func38 rfl ck38 Go.Proofs.Tryz.call38 (.code (c := Go.Proofs.Tryz.f39.body.getD .skip) Go.Proofs.Tryz.func39 rfl ck39 Go.Proofs.Tryz.call39 (.code (c := Go.Proofs.Tryz.f41.body.getD .skip) Go.Proofs.Tryz.func41 rfl ck41 Go.Proofs.Tryz.call41 (.code (c := Go.Proofs.Tryz.f43.body.getD .skip) Go.Proofs.Tryz.func43 rfl ck43 Go.Proofs.Tryz.call43 (.code (c := Go.Proofs.Tryz.f40.body.getD .skip) Go.Proofs.Tryz.func40 rfl ck40 Go.Proofs.Tryz.call40 (.code (c := Go.Proofs.Tryz.f10.body.getD .skip) Go.Proofs.Tryz.func10 rfl ck10 Go.Proofs.Tryz.call10 (.code (c := Go.Proofs.Tryz.f11.body.getD .skip) Go.Proofs.Tryz.func11 rfl ck11 Go.Proofs.Tryz.call11 (.code (c := Go.Proofs.Tryz.f110.body.getD .skip) Go.Proofs.Tryz.func110 rfl ck110 Go.Proofs.Tryz.call110 (.code (c := Go.Proofs.Tryz.f20.body.getD .skip) Go.Proofs.Tryz.func20 rfl ck20 Go.Proofs.Tryz.call20 (.code (c := Go.Proofs.Tryz.f204.body.getD .skip) Go.Proofs.Tryz.func204 rfl ck204 Go.Proofs.Tryz.call204 (.code (c := Go.Proofs.Tryz.f104.body.getD .skip) Go.Proofs.Tryz.func104 rfl ck104 Go.Proofs.Tryz.call104 (.code (c := Go.Proofs.Tryz.f47.body.getD .skip) Go.Proofs.Tryz.func47 rfl ck47 Go.Proofs.Tryz.call47 (.code (c := Go.Proofs.Tryz.f49.body.getD .skip) Go.Proofs.Tryz.func49 rfl ck49 Go.Proofs.Tryz.call49 (.code (c := Go.Proofs.Tryz.f12.body.getD .skip) Go.Proofs.Tryz.func12 rfl ck12 Go.Proofs.Tryz.call12 (.code (c := Go.Proofs.Tryz.f53.body.getD .skip) Go.Proofs.Tryz.func53 rfl ck53 Go.Proofs.Tryz.call53 (.code (c := Go.Proofs.Tryz.f16.body.getD .skip) Go.Proofs.Tryz.func16 rfl ck16 Go.Proofs.Tryz.call16 (.code (c := Go.Proofs.Tryz.f52.body.getD .skip) Go.Proofs.Tryz.func52 rfl ck52 Go.Proofs.Tryz.call52 (.code (c := Go.Proofs.Tryz.f15.body.getD .skip) Go.Proofs.Tryz.func15 rfl ck15 Go.Proofs.Tryz.call15 (.code (c := Go.Proofs.Tryz.f3.body.getD .skip) Go.Proofs.Tryz.func3 rfl ck3 Go.Proofs.Tryz.call3 (.nil))))))))))))))))))))))))))))))))))))))))))))))))))))))))))))))))))))))))))))))))))))))))))))))))))))))))))))))))))))))))))))))))))))))))))))))))))))))))))))))))))))))))))))))))))))))))))))))))))))))))))))))))))))))))))))))))))))))))))))))))))))))))))))))))))))))))))))))))))))))))))))))))))))))))))))))))))))))))))))))))))))))
theorem fnsOk : FnsOk Go.Proofs.Tryz.prog fns := fnsOk_of fnAll (by intro q hq; exact of_blt (l := fnl) (by kernel_rfl) q hq)
end Go.XS.Tryz
/- The contracts of a run. -/
namespace Go.XS.Tryz
open Go Go.TS
theorem ix216 : IxR1 iSectors (Go.TS.Tryz.c216 (sector_Disk_Sectors Go.TS.Tryz.tau)) := ⟨iSectors_ch, fun γ φ ags H h vs q K hx hR hv hK => iSectors_R (τ := Go.TS.Tryz.tau) (fun d h K hh => hh) γ φ ags H h vs q K hx hR hv hK⟩
theorem ix130 : IxR1 iWord (Go.TS.Tryz.c130 (octet_Word Go.TS.Tryz.tau)) := ⟨iWord_ch, fun γ φ ags H h vs q K hx hR hv hK => iWord_R (τ := Go.TS.Tryz.tau) (fun s n m h K hh => hh) γ φ ags H h vs q K hx hR hv hK⟩
theorem ix344 : IxR1 iParts (Go.TS.Tryz.c344 (crc_Parts Go.TS.Tryz.tau)) := ⟨iParts_ch, fun γ φ ags H h vs q K hx hR hv hK => iParts_R (τ := Go.TS.Tryz.tau) (fun s h K hh => hh) γ φ ags H h vs q K hx hR hv hK⟩
theorem ix276 : IxR1 iInsert (Go.TS.Tryz.c276 (slices_Insert_int_int Go.TS.Tryz.tau)) := ⟨iInsert_ch, fun γ φ ags H h vs q K hx hR hv hK => iInsert_R (τ := Go.TS.Tryz.tau) (fun s x n h K hh => hh) γ φ ags H h vs q K hx hR hv hK⟩
theorem ix191 : IxR1 iFlush (Go.TS.Tryz.c191 (sector_Disk_Flush Go.TS.Tryz.tau)) := ⟨iFlush_ch, fun γ φ ags H h vs q K hx hR hv hK => iFlush_R (τ := Go.TS.Tryz.tau) (fun d h K hh => hh) γ φ ags H h vs q K hx hR hv hK⟩
theorem ix213 : IxR1 iRdWord (Go.TS.Tryz.c213 (octet_Reader_Word Go.TS.Tryz.tau)) := ⟨iRdWord_ch, fun γ φ ags H h vs q K hx hR hv hK => iRdWord_R (τ := Go.TS.Tryz.tau) (fun d m h K hh => hh) γ φ ags H h vs q K hx hR hv hK⟩
theorem ix316 : IxR1 (iZeros 264) (Go.TS.Tryz.c316 (slices_IndexFunc_byte_byte Go.TS.Tryz.tau)) := ⟨iZeros_ch 264, fun γ φ ags H h vs q K hx hR hv hK => iZeros_R (τ := Go.TS.Tryz.tau) (fun s h K hh => hh) γ φ ags H h vs q K hx hR hv hK⟩
theorem ix287 : IxR1 iNoughts (Go.TS.Tryz.c287 (slots_noughts Go.TS.Tryz.tau)) := ⟨iNoughts_ch, fun γ φ ags H h vs q K hx hR hv hK => iNoughts_R (τ := Go.TS.Tryz.tau) (fun s h K hh => hh) γ φ ags H h vs q K hx hR hv hK⟩
theorem ix226 : IxR1 iDelete (Go.TS.Tryz.c226 (slices_Delete_int_int Go.TS.Tryz.tau)) := ⟨iDelete_ch, fun γ φ ags H h vs q K hx hR hv hK => iDelete_R (τ := Go.TS.Tryz.tau) (fun s n m h K hh => hh) γ φ ags H h vs q K hx hR hv hK⟩
theorem ix241 : IxR1 iInsertR (Go.TS.Tryz.c241 (slices_Insert_api_Ref_api_Ref Go.TS.Tryz.tau)) := ⟨iInsertR_ch, fun γ φ ags H h vs q K hx hR hv hK => iInsertR_R (τ := Go.TS.Tryz.tau) (fun s x n h K hh => hh) γ φ ags H h vs q K hx hR hv hK⟩
theorem ix249 : IxR1 iDelR (Go.TS.Tryz.c249 (slices_Delete_api_Ref_api_Ref Go.TS.Tryz.tau)) := ⟨iDelR_ch, fun γ φ ags H h vs q K hx hR hv hK => iDelR_R (τ := Go.TS.Tryz.tau) (fun s n m h K hh => hh) γ φ ags H h vs q K hx hR hv hK⟩
def ixl : List (Nat × CallP) := [(216, Go.TS.Tryz.c216 (sector_Disk_Sectors Go.TS.Tryz.tau)), (130, Go.TS.Tryz.c130 (octet_Word Go.TS.Tryz.tau)), (344, Go.TS.Tryz.c344 (crc_Parts Go.TS.Tryz.tau)), (276, Go.TS.Tryz.c276 (slices_Insert_int_int Go.TS.Tryz.tau)), (191, Go.TS.Tryz.c191 (sector_Disk_Flush Go.TS.Tryz.tau)), (213, Go.TS.Tryz.c213 (octet_Reader_Word Go.TS.Tryz.tau)), (316, Go.TS.Tryz.c316 (slices_IndexFunc_byte_byte Go.TS.Tryz.tau)), (287, Go.TS.Tryz.c287 (slots_noughts Go.TS.Tryz.tau)), (226, Go.TS.Tryz.c226 (slices_Delete_int_int Go.TS.Tryz.tau)), (241, Go.TS.Tryz.c241 (slices_Insert_api_Ref_api_Ref Go.TS.Tryz.tau)), (249, Go.TS.Tryz.c249 (slices_Delete_api_Ref_api_Ref Go.TS.Tryz.tau))]
theorem ixOk : IxOk Go.Proofs.Tryz.prog (ixGet ixl) := ixOk_of (.cons Go.TS.Tryz.s216 (.cons Go.TS.Tryz.s130 (.cons Go.TS.Tryz.s344 (.cons Go.TS.Tryz.s276 (.cons Go.TS.Tryz.s191 (.cons Go.TS.Tryz.s213 (.cons Go.TS.Tryz.s316 (.cons Go.TS.Tryz.s287 (.cons Go.TS.Tryz.s226 (.cons Go.TS.Tryz.s241 (.cons Go.TS.Tryz.s249 (.nil))))))))))))
set_option maxRecDepth 100000 in
theorem ixAll : IxAll (ixGet ixl) fnl := .code (.code (.code (.code (.code (.code (.code (.intr (p := Go.TS.Tryz.c216 (sector_Disk_Sectors Go.TS.Tryz.tau)) rfl ix216 (.code (.code (.code (.code (.code (.code (.code (.code (.code (.code (.code (.code (.code (.code (.intr (p := Go.TS.Tryz.c130 (octet_Word Go.TS.Tryz.tau)) rfl ix130 (.intr (p := Go.TS.Tryz.c344 (crc_Parts Go.TS.Tryz.tau)) rfl ix344 (.code (.code (.code (.code (.code (.code (.code (.code (.code (.code (.code (.code (.code (.code (.code (.code (.code (.code (.code (.code (.code (.code (.intr (p := Go.TS.Tryz.c276 (slices_Insert_int_int Go.TS.Tryz.tau)) rfl ix276 (.code (.code (.code (.code (.code (.code (.code (.code (.code (.code (.code (.code (.code (.code (.code (.code (.code (.code (.code (.code (.code (.code (.code (.code (.code (.code (.code (.code (.code (.code (.code (.code (.code (.intr (p := Go.TS.Tryz.c191 (sector_Disk_Flush Go.TS.Tryz.tau)) rfl ix191 (.code (.code (.code (.code (.code (.code (.code (.code (.code (.code (.code (.code (.code (.code (.code (.code (.code (.code (.intr (p := Go.TS.Tryz.c213 (octet_Reader_Word Go.TS.Tryz.tau)) rfl ix213 (.code (.code (.code (.code (.code (.code (.code (.code (.code (.code (.code (.code (.code (.intr (p := Go.TS.Tryz.c316 (slices_IndexFunc_byte_byte Go.TS.Tryz.tau)) rfl ix316 (.code (.code (.code (.code (.code (.code (.code (.code (.code (.code (.code (.code (.code (.code (.code (.code (.code (.code (.code (.code (.code (.code (.code (.code (.code (.code (.code (.code (.code (.code (.code (.code (.code (.code (.code (.intr (p := Go.TS.Tryz.c287 (slots_noughts Go.TS.Tryz.tau)) rfl ix287 (.code (.code (.code (.code (.code (.code (.code (.code (.code (.code (.code (.code (.code (.code (.code (.code (.code (.code (.code (.code (.code (.code (.code (.code (.code (.code (.code (.code (.code (.code (.code (.code (.code (.code (.code (.intr (p := Go.TS.Tryz.c226 (slices_Delete_int_int Go.TS.Tryz.tau)) rfl ix226 (.code (.code (.code (.code (.code (.code (.code (.code (.code (.code (.code (.code (.code (.code (.code (.code (.code (.code (.code (.code (.code (.code (.code (.code (.code (.code (.code (.code (.code (.code (.code (.code (.code (.code (.code (.intr (p := Go.TS.Tryz.c241 (slices_Insert_api_Ref_api_Ref Go.TS.Tryz.tau)) rfl ix241 (.code (.code (.code (.code (.code (.code (.code (.code (.code (.intr (p := Go.TS.Tryz.c249 (slices_Delete_api_Ref_api_Ref Go.TS.Tryz.tau)) rfl ix249 (.code (.code (.code (.code (.code (.code (.code (.code (.code (.code (.code (.code (.code (.code (.code (.code (.code (.code (.code (.code (.code (.code (.code (.code (.code (.code (.code (.code (.code (.code (.code (.code (.code (.code (.code (.code (.code (.code (.code (.code (.code (.code (.code (.code (.code (.code (.code (.code (.code (.code (.code (.code (.code (.code (.code (.code (.code (.code (.code (.code (.code (.code (.code (.code (.code (.code (.code (.code (.code (.code (.code (.code (.code (.code (.code (.code (.code (.code (.code (.code (.code (.code (.code (.code (.code (.code (.code (.code (.code (.code (.code (.code (.code (.code (.nil))))))))))))))))))))))))))))))))))))))))))))))))))))))))))))))))))))))))))))))))))))))))))))))))))))))))))))))))))))))))))))))))))))))))))))))))))))))))))))))))))))))))))))))))))))))))))))))))))))))))))))))))))))))))))))))))))))))))))))))))))))))))))))))))))))))))))))))))))))))))))))))))))))))))))))))))))))))))))))))))))))))
theorem ixR : IxR fns (ixGet ixl) := ixR_of ixAll (by intro q hq; exact of_blt (l := fnl) (by kernel_rfl) q hq)
end Go.XS.Tryz
/- The tables of a run: facts of the types. -/
namespace Go.XS.Tryz
open Go Go.TS
set_option maxRecDepth 100000
theorem hm : Go.Proofs.Tryz.prog.follows .mixedOrders = true := by kernel_rfl
theorem ty3 : TyOk Go.Proofs.Tryz.prog 3 ti3 := ⟨Go.Proofs.Tryz.underlying3, by kernel_rfl, by kernel_rfl, trivial⟩
theorem ty4 : TyOk Go.Proofs.Tryz.prog 4 ti4 := ⟨Go.Proofs.Tryz.underlying4, by kernel_rfl, by kernel_rfl, trivial⟩
theorem ty5 : TyOk Go.Proofs.Tryz.prog 5 ti5 := ⟨Go.Proofs.Tryz.underlying5, by kernel_rfl, by kernel_rfl, trivial⟩
theorem ty9 : TyOk Go.Proofs.Tryz.prog 9 ti9 := ⟨Go.Proofs.Tryz.underlying9, by kernel_rfl, by kernel_rfl, trivial⟩
theorem ty22 : TyOk Go.Proofs.Tryz.prog 22 ti22 := ⟨Go.Proofs.Tryz.underlying22, by kernel_rfl, by kernel_rfl, trivial⟩
theorem ty25 : TyOk Go.Proofs.Tryz.prog 25 ti25 := ⟨Go.Proofs.Tryz.underlying25, by kernel_rfl, by kernel_rfl, trivial⟩
theorem ty27 : TyOk Go.Proofs.Tryz.prog 27 ti27 := ⟨Go.Proofs.Tryz.underlying27, by kernel_rfl, by kernel_rfl, trivial⟩
theorem ty28 : TyOk Go.Proofs.Tryz.prog 28 ti28 := ⟨Go.Proofs.Tryz.underlying28, by kernel_rfl, by kernel_rfl, trivial⟩
theorem ty30 : TyOk Go.Proofs.Tryz.prog 30 ti30 := ⟨Go.Proofs.Tryz.underlying30, by kernel_rfl, by kernel_rfl, ⟨by kernel_rfl, by kernel_rfl⟩⟩
theorem ty31 : TyOk Go.Proofs.Tryz.prog 31 ti31 := ⟨Go.Proofs.Tryz.underlying31, by kernel_rfl, by kernel_rfl, trivial⟩
theorem ty32 : TyOk Go.Proofs.Tryz.prog 32 ti32 := ⟨Go.Proofs.Tryz.underlying32, by kernel_rfl, by kernel_rfl, trivial⟩
theorem ty34 : TyOk Go.Proofs.Tryz.prog 34 ti34 := ⟨Go.Proofs.Tryz.underlying34, by kernel_rfl, by kernel_rfl, ⟨by kernel_rfl, by kernel_rfl⟩⟩
theorem ty36 : TyOk Go.Proofs.Tryz.prog 36 ti36 := ⟨Go.Proofs.Tryz.underlying36, by kernel_rfl, by kernel_rfl, ⟨by kernel_rfl, by kernel_rfl⟩⟩
theorem ty42 : TyOk Go.Proofs.Tryz.prog 42 ti42 := ⟨Go.Proofs.Tryz.underlying42, by kernel_rfl, by kernel_rfl, ⟨by kernel_rfl, by kernel_rfl⟩⟩
theorem ty46 : TyOk Go.Proofs.Tryz.prog 46 ti46 := ⟨Go.Proofs.Tryz.underlying46, by kernel_rfl, by kernel_rfl, trivial⟩
theorem ty49 : TyOk Go.Proofs.Tryz.prog 49 ti49 := ⟨Go.Proofs.Tryz.underlying49, by kernel_rfl, by kernel_rfl, trivial⟩
theorem ty54 : TyOk Go.Proofs.Tryz.prog 54 ti54 := ⟨Go.Proofs.Tryz.underlying54, by kernel_rfl, by kernel_rfl, ⟨by kernel_rfl, by kernel_rfl⟩⟩
theorem ty61 : TyOk Go.Proofs.Tryz.prog 61 ti61 := ⟨Go.Proofs.Tryz.underlying61, by kernel_rfl, by kernel_rfl, trivial⟩
theorem ty64 : TyOk Go.Proofs.Tryz.prog 64 ti64 := ⟨Go.Proofs.Tryz.underlying64, by kernel_rfl, by kernel_rfl, trivial⟩
theorem ty67 : TyOk Go.Proofs.Tryz.prog 67 ti67 := ⟨Go.Proofs.Tryz.underlying67, by kernel_rfl, by kernel_rfl, trivial⟩
theorem ty71 : TyOk Go.Proofs.Tryz.prog 71 ti71 := ⟨Go.Proofs.Tryz.underlying71, by kernel_rfl, by kernel_rfl, trivial⟩
theorem ty80 : TyOk Go.Proofs.Tryz.prog 80 ti80 := ⟨Go.Proofs.Tryz.underlying80, by kernel_rfl, by kernel_rfl, ⟨by kernel_rfl, by kernel_rfl⟩⟩
theorem ty86 : TyOk Go.Proofs.Tryz.prog 86 ti86 := ⟨Go.Proofs.Tryz.underlying86, by kernel_rfl, by kernel_rfl, trivial⟩
theorem ty91 : TyOk Go.Proofs.Tryz.prog 91 ti91 := ⟨Go.Proofs.Tryz.underlying91, by kernel_rfl, by kernel_rfl, ⟨by kernel_rfl, by kernel_rfl⟩⟩
theorem ty94 : TyOk Go.Proofs.Tryz.prog 94 ti94 := ⟨Go.Proofs.Tryz.underlying94, by kernel_rfl, by kernel_rfl, trivial⟩
theorem ty101 : TyOk Go.Proofs.Tryz.prog 101 ti101 := ⟨Go.Proofs.Tryz.underlying101, by kernel_rfl, by kernel_rfl, trivial⟩
theorem ty102 : TyOk Go.Proofs.Tryz.prog 102 ti102 := ⟨Go.Proofs.Tryz.underlying102, by kernel_rfl, by kernel_rfl, trivial⟩
theorem ty110 : TyOk Go.Proofs.Tryz.prog 110 ti110 := ⟨Go.Proofs.Tryz.underlying110, by kernel_rfl, by kernel_rfl, ⟨by kernel_rfl, by kernel_rfl⟩⟩
theorem ty112 : TyOk Go.Proofs.Tryz.prog 112 ti112 := ⟨Go.Proofs.Tryz.underlying112, by kernel_rfl, by kernel_rfl, trivial⟩
theorem ty114 : TyOk Go.Proofs.Tryz.prog 114 ti114 := ⟨Go.Proofs.Tryz.underlying114, by kernel_rfl, by kernel_rfl, ⟨by kernel_rfl, by kernel_rfl⟩⟩
theorem ty126 : TyOk Go.Proofs.Tryz.prog 126 ti126 := ⟨Go.Proofs.Tryz.underlying126, by kernel_rfl, by kernel_rfl, trivial⟩
theorem ty129 : TyOk Go.Proofs.Tryz.prog 129 ti129 := ⟨Go.Proofs.Tryz.underlying129, by kernel_rfl, by kernel_rfl, ⟨by kernel_rfl, by kernel_rfl⟩⟩
theorem ty135 : TyOk Go.Proofs.Tryz.prog 135 ti135 := ⟨Go.Proofs.Tryz.underlying135, by kernel_rfl, by kernel_rfl, ⟨by kernel_rfl, by kernel_rfl⟩⟩
theorem ty173 : TyOk Go.Proofs.Tryz.prog 173 ti173 := ⟨Go.Proofs.Tryz.underlying173, by kernel_rfl, by kernel_rfl, trivial⟩
theorem ty177 : TyOk Go.Proofs.Tryz.prog 177 ti177 := ⟨Go.Proofs.Tryz.underlying177, by kernel_rfl, by kernel_rfl, ⟨by kernel_rfl, by kernel_rfl⟩⟩
theorem ty186 : TyOk Go.Proofs.Tryz.prog 186 ti186 := ⟨Go.Proofs.Tryz.underlying186, by kernel_rfl, by kernel_rfl, trivial⟩
theorem ty195 : TyOk Go.Proofs.Tryz.prog 195 ti195 := ⟨Go.Proofs.Tryz.underlying195, by kernel_rfl, by kernel_rfl, ⟨by kernel_rfl, by kernel_rfl⟩⟩
theorem ty197 : TyOk Go.Proofs.Tryz.prog 197 ti197 := ⟨Go.Proofs.Tryz.underlying197, by kernel_rfl, by kernel_rfl, ⟨by kernel_rfl, by kernel_rfl⟩⟩
theorem ty198 : TyOk Go.Proofs.Tryz.prog 198 ti198 := ⟨Go.Proofs.Tryz.underlying198, by kernel_rfl, by kernel_rfl, trivial⟩
theorem ty200 : TyOk Go.Proofs.Tryz.prog 200 ti200 := ⟨Go.Proofs.Tryz.underlying200, by kernel_rfl, by kernel_rfl, ⟨by kernel_rfl, by kernel_rfl⟩⟩
theorem ty203 : TyOk Go.Proofs.Tryz.prog 203 ti203 := ⟨Go.Proofs.Tryz.underlying203, by kernel_rfl, by kernel_rfl, trivial⟩
theorem ty219 : TyOk Go.Proofs.Tryz.prog 219 ti219 := ⟨Go.Proofs.Tryz.underlying219, by kernel_rfl, by kernel_rfl, trivial⟩
theorem ty224 : TyOk Go.Proofs.Tryz.prog 224 ti224 := ⟨Go.Proofs.Tryz.underlying224, by kernel_rfl, by kernel_rfl, ⟨by kernel_rfl, by kernel_rfl⟩⟩
theorem ty225 : TyOk Go.Proofs.Tryz.prog 225 ti225 := ⟨Go.Proofs.Tryz.underlying225, by kernel_rfl, by kernel_rfl, trivial⟩
theorem ty227 : TyOk Go.Proofs.Tryz.prog 227 ti227 := ⟨Go.Proofs.Tryz.underlying227, by kernel_rfl, by kernel_rfl, ⟨by kernel_rfl, by kernel_rfl⟩⟩
theorem ty231 : TyOk Go.Proofs.Tryz.prog 231 ti231 := ⟨Go.Proofs.Tryz.underlying231, by kernel_rfl, by kernel_rfl, trivial⟩
theorem ty233 : TyOk Go.Proofs.Tryz.prog 233 ti233 := ⟨Go.Proofs.Tryz.underlying233, by kernel_rfl, by kernel_rfl, ⟨by kernel_rfl, by kernel_rfl⟩⟩
theorem ty253 : TyOk Go.Proofs.Tryz.prog 253 ti253 := ⟨Go.Proofs.Tryz.underlying253, by kernel_rfl, by kernel_rfl, trivial⟩
theorem ty274 : TyOk Go.Proofs.Tryz.prog 274 ti274 := ⟨Go.Proofs.Tryz.underlying274, by kernel_rfl, by kernel_rfl, trivial⟩
theorem ty275 : TyOk Go.Proofs.Tryz.prog 275 ti275 := ⟨Go.Proofs.Tryz.underlying275, by kernel_rfl, by kernel_rfl, trivial⟩
theorem ty277 : TyOk Go.Proofs.Tryz.prog 277 ti277 := ⟨Go.Proofs.Tryz.underlying277, by kernel_rfl, by kernel_rfl, ⟨by kernel_rfl, by kernel_rfl⟩⟩
theorem ty281 : TyOk Go.Proofs.Tryz.prog 281 ti281 := ⟨Go.Proofs.Tryz.underlying281, by kernel_rfl, by kernel_rfl, ⟨by kernel_rfl, by kernel_rfl⟩⟩
theorem ty291 : TyOk Go.Proofs.Tryz.prog 291 ti291 := ⟨Go.Proofs.Tryz.underlying291, by kernel_rfl, by kernel_rfl, trivial⟩
theorem ty293 : TyOk Go.Proofs.Tryz.prog 293 ti293 := ⟨Go.Proofs.Tryz.underlying293, by kernel_rfl, by kernel_rfl, ⟨by kernel_rfl, by kernel_rfl⟩⟩
theorem ty295 : TyOk Go.Proofs.Tryz.prog 295 ti295 := ⟨Go.Proofs.Tryz.underlying295, by kernel_rfl, by kernel_rfl, trivial⟩
theorem ty297 : TyOk Go.Proofs.Tryz.prog 297 ti297 := ⟨Go.Proofs.Tryz.underlying297, by kernel_rfl, by kernel_rfl, ⟨by kernel_rfl, by kernel_rfl⟩⟩
theorem ty301 : TyOk Go.Proofs.Tryz.prog 301 ti301 := ⟨Go.Proofs.Tryz.underlying301, by kernel_rfl, by kernel_rfl, trivial⟩
theorem ty307 : TyOk Go.Proofs.Tryz.prog 307 ti307 := ⟨Go.Proofs.Tryz.underlying307, by kernel_rfl, by kernel_rfl, trivial⟩
theorem ty311 : TyOk Go.Proofs.Tryz.prog 311 ti311 := ⟨Go.Proofs.Tryz.underlying311, by kernel_rfl, by kernel_rfl, ⟨by kernel_rfl, by kernel_rfl⟩⟩
theorem ty313 : TyOk Go.Proofs.Tryz.prog 313 ti313 := ⟨Go.Proofs.Tryz.underlying313, by kernel_rfl, by kernel_rfl, ⟨by kernel_rfl, by kernel_rfl⟩⟩
theorem ty327 : TyOk Go.Proofs.Tryz.prog 327 ti327 := ⟨Go.Proofs.Tryz.underlying327, by kernel_rfl, by kernel_rfl, trivial⟩
theorem ty335 : TyOk Go.Proofs.Tryz.prog 335 ti335 := ⟨Go.Proofs.Tryz.underlying335, by kernel_rfl, by kernel_rfl, trivial⟩
theorem ty352 : TyOk Go.Proofs.Tryz.prog 352 ti352 := ⟨Go.Proofs.Tryz.underlying352, by kernel_rfl, by kernel_rfl, ⟨by kernel_rfl, by kernel_rfl⟩⟩
theorem ty359 : TyOk Go.Proofs.Tryz.prog 359 ti359 := ⟨Go.Proofs.Tryz.underlying359, by kernel_rfl, by kernel_rfl, trivial⟩
theorem ty366 : TyOk Go.Proofs.Tryz.prog 366 ti366 := ⟨Go.Proofs.Tryz.underlying366, by kernel_rfl, by kernel_rfl, trivial⟩
theorem ty375 : TyOk Go.Proofs.Tryz.prog 375 ti375 := ⟨Go.Proofs.Tryz.underlying375, by kernel_rfl, by kernel_rfl, trivial⟩
theorem ty377 : TyOk Go.Proofs.Tryz.prog 377 ti377 := ⟨Go.Proofs.Tryz.underlying377, by kernel_rfl, by kernel_rfl, trivial⟩
theorem ty379 : TyOk Go.Proofs.Tryz.prog 379 ti379 := ⟨Go.Proofs.Tryz.underlying379, by kernel_rfl, by kernel_rfl, ⟨by kernel_rfl, by kernel_rfl⟩⟩
theorem ty382 : TyOk Go.Proofs.Tryz.prog 382 ti382 := ⟨Go.Proofs.Tryz.underlying382, by kernel_rfl, by kernel_rfl, trivial⟩
theorem ty384 : TyOk Go.Proofs.Tryz.prog 384 ti384 := ⟨Go.Proofs.Tryz.underlying384, by kernel_rfl, by kernel_rfl, trivial⟩
theorem ty385 : TyOk Go.Proofs.Tryz.prog 385 ti385 := ⟨Go.Proofs.Tryz.underlying385, by kernel_rfl, by kernel_rfl, ⟨by kernel_rfl, by kernel_rfl⟩⟩
theorem ty396 : TyOk Go.Proofs.Tryz.prog 396 ti396 := ⟨Go.Proofs.Tryz.underlying396, by kernel_rfl, by kernel_rfl, trivial⟩
theorem ty411 : TyOk Go.Proofs.Tryz.prog 411 ti411 := ⟨Go.Proofs.Tryz.underlying411, by kernel_rfl, by kernel_rfl, ⟨by kernel_rfl, by kernel_rfl⟩⟩
theorem ty415 : TyOk Go.Proofs.Tryz.prog 415 ti415 := ⟨Go.Proofs.Tryz.underlying415, by kernel_rfl, by kernel_rfl, trivial⟩
theorem ty426 : TyOk Go.Proofs.Tryz.prog 426 ti426 := ⟨Go.Proofs.Tryz.underlying426, by kernel_rfl, by kernel_rfl, trivial⟩
theorem ty430 : TyOk Go.Proofs.Tryz.prog 430 ti430 := ⟨Go.Proofs.Tryz.underlying430, by kernel_rfl, by kernel_rfl, trivial⟩
theorem ty432 : TyOk Go.Proofs.Tryz.prog 432 ti432 := ⟨Go.Proofs.Tryz.underlying432, by kernel_rfl, by kernel_rfl, trivial⟩
theorem ty439 : TyOk Go.Proofs.Tryz.prog 439 ti439 := ⟨Go.Proofs.Tryz.underlying439, by kernel_rfl, by kernel_rfl, trivial⟩
theorem ty443 : TyOk Go.Proofs.Tryz.prog 443 ti443 := ⟨Go.Proofs.Tryz.underlying443, by kernel_rfl, by kernel_rfl, trivial⟩
theorem ty446 : TyOk Go.Proofs.Tryz.prog 446 ti446 := ⟨Go.Proofs.Tryz.underlying446, by kernel_rfl, by kernel_rfl, trivial⟩
theorem tysOk : TysOk Go.Proofs.Tryz.prog tys := tysOk_ofT (.cons ty3 (.cons ty4 (.cons ty5 (.cons ty9 (.cons ty22 (.cons ty25 (.cons ty27 (.cons ty28 (.cons ty30 (.cons ty31 (.cons ty32 (.cons ty34 (.cons ty36 (.cons ty42 (.cons ty46 (.cons ty49 (.cons ty54 (.cons ty61 (.cons ty64 (.cons ty67 (.cons ty71 (.cons ty80 (.cons ty86 (.cons ty91 (.cons ty94 (.cons ty101 (.cons ty102 (.cons ty110 (.cons ty112 (.cons ty114 (.cons ty126 (.cons ty129 (.cons ty135 (.cons ty173 (.cons ty177 (.cons ty186 (.cons ty195 (.cons ty197 (.cons ty198 (.cons ty200 (.cons ty203 (.cons ty219 (.cons ty224 (.cons ty225 (.cons ty227 (.cons ty231 (.cons ty233 (.cons ty253 (.cons ty274 (.cons ty275 (.cons ty277 (.cons ty281 (.cons ty291 (.cons ty293 (.cons ty295 (.cons ty297 (.cons ty301 (.cons ty307 (.cons ty311 (.cons ty313 (.cons ty327 (.cons ty335 (.cons ty352 (.cons ty359 (.cons ty366 (.cons ty375 (.cons ty377 (.cons ty379 (.cons ty382 (.cons ty384 (.cons ty385 (.cons ty396 (.cons ty411 (.cons ty415 (.cons ty426 (.cons ty430 (.cons ty432 (.cons ty439 (.cons ty443 (.cons ty446 (.nil))))))))))))))))))))))))))))))))))))))))))))))))))))))))))))))))))))))))))))))))) (by kernel_rfl)
theorem tyAll : TyAllR tys tyl := .flat (by kernel_rfl) (by kernel_rfl) (.flat (by kernel_rfl) (by kernel_rfl) (.flat (by kernel_rfl) (by kernel_rfl) (.flat (by kernel_rfl) (by kernel_rfl) (.flat (by kernel_rfl) (by kernel_rfl) (.flat (by kernel_rfl) (by kernel_rfl) (.flat (by kernel_rfl) (by kernel_rfl) (.flat (by kernel_rfl) (by kernel_rfl) (.flat (by kernel_rfl) (by kernel_rfl) (.flat (by kernel_rfl) (by kernel_rfl) (.flat (by kernel_rfl) (by kernel_rfl) (.flat (by kernel_rfl) (by kernel_rfl) (.flat (by kernel_rfl) (by kernel_rfl) (.flat (by kernel_rfl) (by kernel_rfl) (.flat (by kernel_rfl) (by kernel_rfl) (.flat (by kernel_rfl) (by kernel_rfl) (.flat (by kernel_rfl) (by kernel_rfl) (.flat (by kernel_rfl) (by kernel_rfl) (.flat (by kernel_rfl) (by kernel_rfl) (.flat (by kernel_rfl) (by kernel_rfl) (.flat (by kernel_rfl) (by kernel_rfl) (.flat (by kernel_rfl) (by kernel_rfl) (.flat (by kernel_rfl) (by kernel_rfl) (.flat (by kernel_rfl) (by kernel_rfl) (.flat (by kernel_rfl) (by kernel_rfl) (.flat (by kernel_rfl) (by kernel_rfl) (.flat (by kernel_rfl) (by kernel_rfl) (.flat (by kernel_rfl) (by kernel_rfl) (.flat (by kernel_rfl) (by kernel_rfl) (.flat (by kernel_rfl) (by kernel_rfl) (.flat (by kernel_rfl) (by kernel_rfl) (.flat (by kernel_rfl) (by kernel_rfl) (.flat (by kernel_rfl) (by kernel_rfl) (.flat (by kernel_rfl) (by kernel_rfl) (.flat (by kernel_rfl) (by kernel_rfl) (.flat (by kernel_rfl) (by kernel_rfl) (.flat (by kernel_rfl) (by kernel_rfl) (.flat (by kernel_rfl) (by kernel_rfl) (.flat (by kernel_rfl) (by kernel_rfl) (.flat (by kernel_rfl) (by kernel_rfl) (.flat (by kernel_rfl) (by kernel_rfl) (.flat (by kernel_rfl) (by kernel_rfl) (.flat (by kernel_rfl) (by kernel_rfl) (.flat (by kernel_rfl) (by kernel_rfl) (.flat (by kernel_rfl) (by kernel_rfl) (.flat (by kernel_rfl) (by kernel_rfl) (.flat (by kernel_rfl) (by kernel_rfl) (.flat (by kernel_rfl) (by kernel_rfl) (.flat (by kernel_rfl) (by kernel_rfl) (.flat (by kernel_rfl) (by kernel_rfl) (.flat (by kernel_rfl) (by kernel_rfl) (.flat (by kernel_rfl) (by kernel_rfl) (.flat (by kernel_rfl) (by kernel_rfl) (.flat (by kernel_rfl) (by kernel_rfl) (.flat (by kernel_rfl) (by kernel_rfl) (.flat (by kernel_rfl) (by kernel_rfl) (.arr (te := ti5) rfl (by kernel_rfl) rfl rfl (by kernel_rfl) (.flat (by kernel_rfl) (by kernel_rfl) (.flat (by kernel_rfl) (by kernel_rfl) (.flat (by kernel_rfl) (by kernel_rfl) (.flat (by kernel_rfl) (by kernel_rfl) (.flat (by kernel_rfl) (by kernel_rfl) (.flat (by kernel_rfl) (by kernel_rfl) (.flat (by kernel_rfl) (by kernel_rfl) (.flat (by kernel_rfl) (by kernel_rfl) (.flat (by kernel_rfl) (by kernel_rfl) (.flat (by kernel_rfl) (by kernel_rfl) (.flat (by kernel_rfl) (by kernel_rfl) (.flat (by kernel_rfl) (by kernel_rfl) (.flat (by kernel_rfl) (by kernel_rfl) (.flat (by kernel_rfl) (by kernel_rfl) (.flat (by kernel_rfl) (by kernel_rfl) (.flat (by kernel_rfl) (by kernel_rfl) (.flat (by kernel_rfl) (by kernel_rfl) (.flat (by kernel_rfl) (by kernel_rfl) (.flat (by kernel_rfl) (by kernel_rfl) (.flat (by kernel_rfl) (by kernel_rfl) (.flat (by kernel_rfl) (by kernel_rfl) (.flat (by kernel_rfl) (by kernel_rfl) (.arr (te := ti112) rfl (by kernel_rfl) rfl rfl (by kernel_rfl) (.nil))))))))))))))))))))))))))))))))))))))))))))))))))))))))))))))))))))))))))))))))
theorem tyR : TyR tys := tyR_of tyAll
end Go.XS.Tryz
/- Calls of a closed run: each call does what its run says. -/
namespace Go.XS.Tryz
open Go Go.TS
set_option maxRecDepth 100000
set_option linter.unusedVariables false
theorem vnm0_0R : RunOf Go.Proofs.Tryz.prog 262 vnm0_0 := run_of (c := Go.Proofs.Tryz.f262.body.getD .skip) (rs := Go.Proofs.Tryz.f262.results.toList) (k := Go.Proofs.Tryz.f262.ntmps) hm tysOk tyR fnsOk ixOk ixR (by kernel_rfl) (by kernel_rfl) (endM_fast vnm0_0r)
theorem vnm0_1R : RunOf Go.Proofs.Tryz.prog 262 vnm0_1 := run_of (c := Go.Proofs.Tryz.f262.body.getD .skip) (rs := Go.Proofs.Tryz.f262.results.toList) (k := Go.Proofs.Tryz.f262.ntmps) hm tysOk tyR fnsOk ixOk ixR (by kernel_rfl) (by kernel_rfl) (endM_fast vnm0_1r)
theorem vnm0_2R : RunOf Go.Proofs.Tryz.prog 262 vnm0_2 := run_of (c := Go.Proofs.Tryz.f262.body.getD .skip) (rs := Go.Proofs.Tryz.f262.results.toList) (k := Go.Proofs.Tryz.f262.ntmps) hm tysOk tyR fnsOk ixOk ixR (by kernel_rfl) (by kernel_rfl) (endM_fast vnm0_2r)
theorem vnm0_3R : RunOf Go.Proofs.Tryz.prog 262 vnm0_3 := run_of (c := Go.Proofs.Tryz.f262.body.getD .skip) (rs := Go.Proofs.Tryz.f262.results.toList) (k := Go.Proofs.Tryz.f262.ntmps) hm tysOk tyR fnsOk ixOk ixR (by kernel_rfl) (by kernel_rfl) (endM_fast vnm0_3r)
theorem vnm0_4R : RunOf Go.Proofs.Tryz.prog 262 vnm0_4 := run_of (c := Go.Proofs.Tryz.f262.body.getD .skip) (rs := Go.Proofs.Tryz.f262.results.toList) (k := Go.Proofs.Tryz.f262.ntmps) hm tysOk tyR fnsOk ixOk ixR (by kernel_rfl) (by kernel_rfl) (endM_fast vnm0_4r)
theorem vnm0_5R : RunOf Go.Proofs.Tryz.prog 262 vnm0_5 := run_of (c := Go.Proofs.Tryz.f262.body.getD .skip) (rs := Go.Proofs.Tryz.f262.results.toList) (k := Go.Proofs.Tryz.f262.ntmps) hm tysOk tyR fnsOk ixOk ixR (by kernel_rfl) (by kernel_rfl) (endM_fast vnm0_5r)
theorem vnm0_6R : RunOf Go.Proofs.Tryz.prog 262 vnm0_6 := run_of (c := Go.Proofs.Tryz.f262.body.getD .skip) (rs := Go.Proofs.Tryz.f262.results.toList) (k := Go.Proofs.Tryz.f262.ntmps) hm tysOk tyR fnsOk ixOk ixR (by kernel_rfl) (by kernel_rfl) (endM_fast vnm0_6r)
theorem vnm0_7R : RunOf Go.Proofs.Tryz.prog 262 vnm0_7 := run_of (c := Go.Proofs.Tryz.f262.body.getD .skip) (rs := Go.Proofs.Tryz.f262.results.toList) (k := Go.Proofs.Tryz.f262.ntmps) hm tysOk tyR fnsOk ixOk ixR (by kernel_rfl) (by kernel_rfl) (endM_fast vnm0_7r)
theorem vnm0_8R : RunOf Go.Proofs.Tryz.prog 262 vnm0_8 := run_of (c := Go.Proofs.Tryz.f262.body.getD .skip) (rs := Go.Proofs.Tryz.f262.results.toList) (k := Go.Proofs.Tryz.f262.ntmps) hm tysOk tyR fnsOk ixOk ixR (by kernel_rfl) (by kernel_rfl) (endM_fast vnm0_8r)
theorem vnm0_9R : RunOf Go.Proofs.Tryz.prog 262 vnm0_9 := run_of (c := Go.Proofs.Tryz.f262.body.getD .skip) (rs := Go.Proofs.Tryz.f262.results.toList) (k := Go.Proofs.Tryz.f262.ntmps) hm tysOk tyR fnsOk ixOk ixR (by kernel_rfl) (by kernel_rfl) (endM_fast vnm0_9r)
theorem vnm0_10R : RunOf Go.Proofs.Tryz.prog 262 vnm0_10 := run_of (c := Go.Proofs.Tryz.f262.body.getD .skip) (rs := Go.Proofs.Tryz.f262.results.toList) (k := Go.Proofs.Tryz.f262.ntmps) hm tysOk tyR fnsOk ixOk ixR (by kernel_rfl) (by kernel_rfl) (endM_fast vnm0_10r)
theorem vnm0_11R : RunOf Go.Proofs.Tryz.prog 262 vnm0_11 := run_of (c := Go.Proofs.Tryz.f262.body.getD .skip) (rs := Go.Proofs.Tryz.f262.results.toList) (k := Go.Proofs.Tryz.f262.ntmps) hm tysOk tyR fnsOk ixOk ixR (by kernel_rfl) (by kernel_rfl) (endM_fast vnm0_11r)
theorem vnm0_12R : RunOf Go.Proofs.Tryz.prog 262 vnm0_12 := run_of (c := Go.Proofs.Tryz.f262.body.getD .skip) (rs := Go.Proofs.Tryz.f262.results.toList) (k := Go.Proofs.Tryz.f262.ntmps) hm tysOk tyR fnsOk ixOk ixR (by kernel_rfl) (by kernel_rfl) (endM_fast vnm0_12r)
theorem vnm0_13R : RunOf Go.Proofs.Tryz.prog 262 vnm0_13 := run_of (c := Go.Proofs.Tryz.f262.body.getD .skip) (rs := Go.Proofs.Tryz.f262.results.toList) (k := Go.Proofs.Tryz.f262.ntmps) hm tysOk tyR fnsOk ixOk ixR (by kernel_rfl) (by kernel_rfl) (endM_fast vnm0_13r)
theorem vnm0_14R : RunOf Go.Proofs.Tryz.prog 262 vnm0_14 := run_of (c := Go.Proofs.Tryz.f262.body.getD .skip) (rs := Go.Proofs.Tryz.f262.results.toList) (k := Go.Proofs.Tryz.f262.ntmps) hm tysOk tyR fnsOk ixOk ixR (by kernel_rfl) (by kernel_rfl) (endM_fast vnm0_14r)
theorem vnm0_15R : RunOf Go.Proofs.Tryz.prog 262 vnm0_15 := run_of (c := Go.Proofs.Tryz.f262.body.getD .skip) (rs := Go.Proofs.Tryz.f262.results.toList) (k := Go.Proofs.Tryz.f262.ntmps) hm tysOk tyR fnsOk ixOk ixR (by kernel_rfl) (by kernel_rfl) (endM_fast vnm0_15r)
theorem vnm0_16R : RunOf Go.Proofs.Tryz.prog 262 vnm0_16 := run_of (c := Go.Proofs.Tryz.f262.body.getD .skip) (rs := Go.Proofs.Tryz.f262.results.toList) (k := Go.Proofs.Tryz.f262.ntmps) hm tysOk tyR fnsOk ixOk ixR (by kernel_rfl) (by kernel_rfl) (endM_fast vnm0_16r)
theorem vnm0_17R : RunOf Go.Proofs.Tryz.prog 262 vnm0_17 := run_of (c := Go.Proofs.Tryz.f262.body.getD .skip) (rs := Go.Proofs.Tryz.f262.results.toList) (k := Go.Proofs.Tryz.f262.ntmps) hm tysOk tyR fnsOk ixOk ixR (by kernel_rfl) (by kernel_rfl) (endM_fast vnm0_17r)
theorem vnm0_18R : RunOf Go.Proofs.Tryz.prog 262 vnm0_18 := run_of (c := Go.Proofs.Tryz.f262.body.getD .skip) (rs := Go.Proofs.Tryz.f262.results.toList) (k := Go.Proofs.Tryz.f262.ntmps) hm tysOk tyR fnsOk ixOk ixR (by kernel_rfl) (by kernel_rfl) (endM_fast vnm0_18r)
theorem vnm0_19R : RunOf Go.Proofs.Tryz.prog 262 vnm0_19 := run_of (c := Go.Proofs.Tryz.f262.body.getD .skip) (rs := Go.Proofs.Tryz.f262.results.toList) (k := Go.Proofs.Tryz.f262.ntmps) hm tysOk tyR fnsOk ixOk ixR (by kernel_rfl) (by kernel_rfl) (endM_fast vnm0_19r)
theorem vnm0_20R : RunOf Go.Proofs.Tryz.prog 262 vnm0_20 := run_of (c := Go.Proofs.Tryz.f262.body.getD .skip) (rs := Go.Proofs.Tryz.f262.results.toList) (k := Go.Proofs.Tryz.f262.ntmps) hm tysOk tyR fnsOk ixOk ixR (by kernel_rfl) (by kernel_rfl) (endM_fast vnm0_20r)
theorem vnm0_21R : RunOf Go.Proofs.Tryz.prog 262 vnm0_21 := run_of (c := Go.Proofs.Tryz.f262.body.getD .skip) (rs := Go.Proofs.Tryz.f262.results.toList) (k := Go.Proofs.Tryz.f262.ntmps) hm tysOk tyR fnsOk ixOk ixR (by kernel_rfl) (by kernel_rfl) (endM_fast vnm0_21r)
theorem vnm0_22R : RunOf Go.Proofs.Tryz.prog 262 vnm0_22 := run_of (c := Go.Proofs.Tryz.f262.body.getD .skip) (rs := Go.Proofs.Tryz.f262.results.toList) (k := Go.Proofs.Tryz.f262.ntmps) hm tysOk tyR fnsOk ixOk ixR (by kernel_rfl) (by kernel_rfl) (endM_fast vnm0_22r)
theorem vnm0_23R : RunOf Go.Proofs.Tryz.prog 262 vnm0_23 := run_of (c := Go.Proofs.Tryz.f262.body.getD .skip) (rs := Go.Proofs.Tryz.f262.results.toList) (k := Go.Proofs.Tryz.f262.ntmps) hm tysOk tyR fnsOk ixOk ixR (by kernel_rfl) (by kernel_rfl) (endM_fast vnm0_23r)
theorem vnm0_24R : RunOf Go.Proofs.Tryz.prog 262 vnm0_24 := run_of (c := Go.Proofs.Tryz.f262.body.getD .skip) (rs := Go.Proofs.Tryz.f262.results.toList) (k := Go.Proofs.Tryz.f262.ntmps) hm tysOk tyR fnsOk ixOk ixR (by kernel_rfl) (by kernel_rfl) (endM_fast vnm0_24r)
theorem vnm0_25R : RunOf Go.Proofs.Tryz.prog 262 vnm0_25 := run_of (c := Go.Proofs.Tryz.f262.body.getD .skip) (rs := Go.Proofs.Tryz.f262.results.toList) (k := Go.Proofs.Tryz.f262.ntmps) hm tysOk tyR fnsOk ixOk ixR (by kernel_rfl) (by kernel_rfl) (endM_fast vnm0_25r)
theorem vnm0_26R : RunOf Go.Proofs.Tryz.prog 262 vnm0_26 := run_of (c := Go.Proofs.Tryz.f262.body.getD .skip) (rs := Go.Proofs.Tryz.f262.results.toList) (k := Go.Proofs.Tryz.f262.ntmps) hm tysOk tyR fnsOk ixOk ixR (by kernel_rfl) (by kernel_rfl) (endM_fast vnm0_26r)
theorem vnm0_27R : RunOf Go.Proofs.Tryz.prog 262 vnm0_27 := run_of (c := Go.Proofs.Tryz.f262.body.getD .skip) (rs := Go.Proofs.Tryz.f262.results.toList) (k := Go.Proofs.Tryz.f262.ntmps) hm tysOk tyR fnsOk ixOk ixR (by kernel_rfl) (by kernel_rfl) (endM_fast vnm0_27r)
theorem vnm0_28R : RunOf Go.Proofs.Tryz.prog 262 vnm0_28 := run_of (c := Go.Proofs.Tryz.f262.body.getD .skip) (rs := Go.Proofs.Tryz.f262.results.toList) (k := Go.Proofs.Tryz.f262.ntmps) hm tysOk tyR fnsOk ixOk ixR (by kernel_rfl) (by kernel_rfl) (endM_fast vnm0_28r)
theorem vnm0_29R : RunOf Go.Proofs.Tryz.prog 262 vnm0_29 := run_of (c := Go.Proofs.Tryz.f262.body.getD .skip) (rs := Go.Proofs.Tryz.f262.results.toList) (k := Go.Proofs.Tryz.f262.ntmps) hm tysOk tyR fnsOk ixOk ixR (by kernel_rfl) (by kernel_rfl) (endM_fast vnm0_29r)
theorem vnall0 : ∀ m, m ∈ vnes0 → RunOf Go.Proofs.Tryz.prog 262 m := by
  intro m hm
  simp only [vnes0, List.mem_cons, List.not_mem_nil, or_false] at hm
  rcases hm with rfl | rfl | rfl | rfl | rfl | rfl | rfl | rfl | rfl | rfl | rfl | rfl | rfl | rfl | rfl | rfl | rfl | rfl | rfl | rfl | rfl | rfl | rfl | rfl | rfl | rfl | rfl | rfl | rfl | rfl
  · exact vnm0_0R
  · exact vnm0_1R
  · exact vnm0_2R
  · exact vnm0_3R
  · exact vnm0_4R
  · exact vnm0_5R
  · exact vnm0_6R
  · exact vnm0_7R
  · exact vnm0_8R
  · exact vnm0_9R
  · exact vnm0_10R
  · exact vnm0_11R
  · exact vnm0_12R
  · exact vnm0_13R
  · exact vnm0_14R
  · exact vnm0_15R
  · exact vnm0_16R
  · exact vnm0_17R
  · exact vnm0_18R
  · exact vnm0_19R
  · exact vnm0_20R
  · exact vnm0_21R
  · exact vnm0_22R
  · exact vnm0_23R
  · exact vnm0_24R
  · exact vnm0_25R
  · exact vnm0_26R
  · exact vnm0_27R
  · exact vnm0_28R
  · exact vnm0_29R
noncomputable def vnx1 : Nat → Option CallP := overI (ixGet ixl) 262 (pSem Go.Proofs.Tryz.prog 262)
theorem vnfOk1 : FnsOk Go.Proofs.Tryz.prog vnf1 := fnsOk.over 262 (iMemo vnes0)
theorem vnxOk1 : IxOk Go.Proofs.Tryz.prog vnx1 := ixOk.over (pSem_sound Go.Proofs.Tryz.call262)
theorem vnxR1 : IxR vnf1 vnx1 := ixR.over (iMemo_R1 vnall0)
theorem vnm1_0R : RunOf Go.Proofs.Tryz.prog 56 vnm1_0 := run_of (c := Go.Proofs.Tryz.f56.body.getD .skip) (rs := Go.Proofs.Tryz.f56.results.toList) (k := Go.Proofs.Tryz.f56.ntmps) hm tysOk tyR vnfOk1 vnxOk1 vnxR1 (by kernel_rfl) (by kernel_rfl) (endM_fast vnm1_0r)
theorem vnm1_1R : RunOf Go.Proofs.Tryz.prog 56 vnm1_1 := run_of (c := Go.Proofs.Tryz.f56.body.getD .skip) (rs := Go.Proofs.Tryz.f56.results.toList) (k := Go.Proofs.Tryz.f56.ntmps) hm tysOk tyR vnfOk1 vnxOk1 vnxR1 (by kernel_rfl) (by kernel_rfl) (endM_fast vnm1_1r)
theorem vnm1_2R : RunOf Go.Proofs.Tryz.prog 56 vnm1_2 := run_of (c := Go.Proofs.Tryz.f56.body.getD .skip) (rs := Go.Proofs.Tryz.f56.results.toList) (k := Go.Proofs.Tryz.f56.ntmps) hm tysOk tyR vnfOk1 vnxOk1 vnxR1 (by kernel_rfl) (by kernel_rfl) (endM_fast vnm1_2r)
theorem vnm1_3R : RunOf Go.Proofs.Tryz.prog 56 vnm1_3 := run_of (c := Go.Proofs.Tryz.f56.body.getD .skip) (rs := Go.Proofs.Tryz.f56.results.toList) (k := Go.Proofs.Tryz.f56.ntmps) hm tysOk tyR vnfOk1 vnxOk1 vnxR1 (by kernel_rfl) (by kernel_rfl) (endM_fast vnm1_3r)
theorem vnm1_4R : RunOf Go.Proofs.Tryz.prog 56 vnm1_4 := run_of (c := Go.Proofs.Tryz.f56.body.getD .skip) (rs := Go.Proofs.Tryz.f56.results.toList) (k := Go.Proofs.Tryz.f56.ntmps) hm tysOk tyR vnfOk1 vnxOk1 vnxR1 (by kernel_rfl) (by kernel_rfl) (endM_fast vnm1_4r)
theorem vnm1_5R : RunOf Go.Proofs.Tryz.prog 56 vnm1_5 := run_of (c := Go.Proofs.Tryz.f56.body.getD .skip) (rs := Go.Proofs.Tryz.f56.results.toList) (k := Go.Proofs.Tryz.f56.ntmps) hm tysOk tyR vnfOk1 vnxOk1 vnxR1 (by kernel_rfl) (by kernel_rfl) (endM_fast vnm1_5r)
theorem vnm1_6R : RunOf Go.Proofs.Tryz.prog 56 vnm1_6 := run_of (c := Go.Proofs.Tryz.f56.body.getD .skip) (rs := Go.Proofs.Tryz.f56.results.toList) (k := Go.Proofs.Tryz.f56.ntmps) hm tysOk tyR vnfOk1 vnxOk1 vnxR1 (by kernel_rfl) (by kernel_rfl) (endM_fast vnm1_6r)
theorem vnm1_7R : RunOf Go.Proofs.Tryz.prog 56 vnm1_7 := run_of (c := Go.Proofs.Tryz.f56.body.getD .skip) (rs := Go.Proofs.Tryz.f56.results.toList) (k := Go.Proofs.Tryz.f56.ntmps) hm tysOk tyR vnfOk1 vnxOk1 vnxR1 (by kernel_rfl) (by kernel_rfl) (endM_fast vnm1_7r)
theorem vnm1_8R : RunOf Go.Proofs.Tryz.prog 56 vnm1_8 := run_of (c := Go.Proofs.Tryz.f56.body.getD .skip) (rs := Go.Proofs.Tryz.f56.results.toList) (k := Go.Proofs.Tryz.f56.ntmps) hm tysOk tyR vnfOk1 vnxOk1 vnxR1 (by kernel_rfl) (by kernel_rfl) (endM_fast vnm1_8r)
theorem vnm1_9R : RunOf Go.Proofs.Tryz.prog 56 vnm1_9 := run_of (c := Go.Proofs.Tryz.f56.body.getD .skip) (rs := Go.Proofs.Tryz.f56.results.toList) (k := Go.Proofs.Tryz.f56.ntmps) hm tysOk tyR vnfOk1 vnxOk1 vnxR1 (by kernel_rfl) (by kernel_rfl) (endM_fast vnm1_9r)
theorem vnm1_10R : RunOf Go.Proofs.Tryz.prog 56 vnm1_10 := run_of (c := Go.Proofs.Tryz.f56.body.getD .skip) (rs := Go.Proofs.Tryz.f56.results.toList) (k := Go.Proofs.Tryz.f56.ntmps) hm tysOk tyR vnfOk1 vnxOk1 vnxR1 (by kernel_rfl) (by kernel_rfl) (endM_fast vnm1_10r)
theorem vnm1_11R : RunOf Go.Proofs.Tryz.prog 56 vnm1_11 := run_of (c := Go.Proofs.Tryz.f56.body.getD .skip) (rs := Go.Proofs.Tryz.f56.results.toList) (k := Go.Proofs.Tryz.f56.ntmps) hm tysOk tyR vnfOk1 vnxOk1 vnxR1 (by kernel_rfl) (by kernel_rfl) (endM_fast vnm1_11r)
theorem vnall1 : ∀ m, m ∈ vnes1 → RunOf Go.Proofs.Tryz.prog 56 m := by
  intro m hm
  simp only [vnes1, List.mem_cons, List.not_mem_nil, or_false] at hm
  rcases hm with rfl | rfl | rfl | rfl | rfl | rfl | rfl | rfl | rfl | rfl | rfl | rfl
  · exact vnm1_0R
  · exact vnm1_1R
  · exact vnm1_2R
  · exact vnm1_3R
  · exact vnm1_4R
  · exact vnm1_5R
  · exact vnm1_6R
  · exact vnm1_7R
  · exact vnm1_8R
  · exact vnm1_9R
  · exact vnm1_10R
  · exact vnm1_11R
noncomputable def vnx2 : Nat → Option CallP := overI vnx1 56 (pSem Go.Proofs.Tryz.prog 56)
theorem vnfOk2 : FnsOk Go.Proofs.Tryz.prog vnf2 := vnfOk1.over 56 (iMemo vnes1)
theorem vnxOk2 : IxOk Go.Proofs.Tryz.prog vnx2 := vnxOk1.over (pSem_sound Go.Proofs.Tryz.call56)
theorem vnxR2 : IxR vnf2 vnx2 := vnxR1.over (iMemo_R1 vnall1)
theorem vnm2_0R : RunOf Go.Proofs.Tryz.prog 18 vnm2_0 := run_of (c := Go.Proofs.Tryz.f18.body.getD .skip) (rs := Go.Proofs.Tryz.f18.results.toList) (k := Go.Proofs.Tryz.f18.ntmps) hm tysOk tyR vnfOk2 vnxOk2 vnxR2 (by kernel_rfl) (by kernel_rfl) (endM_fast vnm2_0r)
theorem vnm2_1R : RunOf Go.Proofs.Tryz.prog 18 vnm2_1 := run_of (c := Go.Proofs.Tryz.f18.body.getD .skip) (rs := Go.Proofs.Tryz.f18.results.toList) (k := Go.Proofs.Tryz.f18.ntmps) hm tysOk tyR vnfOk2 vnxOk2 vnxR2 (by kernel_rfl) (by kernel_rfl) (endM_fast vnm2_1r)
theorem vnm2_2R : RunOf Go.Proofs.Tryz.prog 18 vnm2_2 := run_of (c := Go.Proofs.Tryz.f18.body.getD .skip) (rs := Go.Proofs.Tryz.f18.results.toList) (k := Go.Proofs.Tryz.f18.ntmps) hm tysOk tyR vnfOk2 vnxOk2 vnxR2 (by kernel_rfl) (by kernel_rfl) (endM_fast vnm2_2r)
theorem vnm2_3R : RunOf Go.Proofs.Tryz.prog 18 vnm2_3 := run_of (c := Go.Proofs.Tryz.f18.body.getD .skip) (rs := Go.Proofs.Tryz.f18.results.toList) (k := Go.Proofs.Tryz.f18.ntmps) hm tysOk tyR vnfOk2 vnxOk2 vnxR2 (by kernel_rfl) (by kernel_rfl) (endM_fast vnm2_3r)
theorem vnm2_4R : RunOf Go.Proofs.Tryz.prog 18 vnm2_4 := run_of (c := Go.Proofs.Tryz.f18.body.getD .skip) (rs := Go.Proofs.Tryz.f18.results.toList) (k := Go.Proofs.Tryz.f18.ntmps) hm tysOk tyR vnfOk2 vnxOk2 vnxR2 (by kernel_rfl) (by kernel_rfl) (endM_fast vnm2_4r)
theorem vnm2_5R : RunOf Go.Proofs.Tryz.prog 18 vnm2_5 := run_of (c := Go.Proofs.Tryz.f18.body.getD .skip) (rs := Go.Proofs.Tryz.f18.results.toList) (k := Go.Proofs.Tryz.f18.ntmps) hm tysOk tyR vnfOk2 vnxOk2 vnxR2 (by kernel_rfl) (by kernel_rfl) (endM_fast vnm2_5r)
theorem vnm2_6R : RunOf Go.Proofs.Tryz.prog 18 vnm2_6 := run_of (c := Go.Proofs.Tryz.f18.body.getD .skip) (rs := Go.Proofs.Tryz.f18.results.toList) (k := Go.Proofs.Tryz.f18.ntmps) hm tysOk tyR vnfOk2 vnxOk2 vnxR2 (by kernel_rfl) (by kernel_rfl) (endM_fast vnm2_6r)
theorem vnm2_7R : RunOf Go.Proofs.Tryz.prog 18 vnm2_7 := run_of (c := Go.Proofs.Tryz.f18.body.getD .skip) (rs := Go.Proofs.Tryz.f18.results.toList) (k := Go.Proofs.Tryz.f18.ntmps) hm tysOk tyR vnfOk2 vnxOk2 vnxR2 (by kernel_rfl) (by kernel_rfl) (endM_fast vnm2_7r)
theorem vnall2 : ∀ m, m ∈ vnes2 → RunOf Go.Proofs.Tryz.prog 18 m := by
  intro m hm
  simp only [vnes2, List.mem_cons, List.not_mem_nil, or_false] at hm
  rcases hm with rfl | rfl | rfl | rfl | rfl | rfl | rfl | rfl
  · exact vnm2_0R
  · exact vnm2_1R
  · exact vnm2_2R
  · exact vnm2_3R
  · exact vnm2_4R
  · exact vnm2_5R
  · exact vnm2_6R
  · exact vnm2_7R
noncomputable def vnx3 : Nat → Option CallP := overI vnx2 18 (pSem Go.Proofs.Tryz.prog 18)
theorem vnfOk3 : FnsOk Go.Proofs.Tryz.prog vnf3 := vnfOk2.over 18 (iMemo vnes2)
theorem vnxOk3 : IxOk Go.Proofs.Tryz.prog vnx3 := vnxOk2.over (pSem_sound Go.Proofs.Tryz.call18)
theorem vnxR3 : IxR vnf3 vnx3 := vnxR2.over (iMemo_R1 vnall2)
theorem vnm3_0R : RunOf Go.Proofs.Tryz.prog 19 vnm3_0 := run_of (c := Go.Proofs.Tryz.f19.body.getD .skip) (rs := Go.Proofs.Tryz.f19.results.toList) (k := Go.Proofs.Tryz.f19.ntmps) hm tysOk tyR vnfOk3 vnxOk3 vnxR3 (by kernel_rfl) (by kernel_rfl) (endM_fast vnm3_0r)
theorem vnm3_1R : RunOf Go.Proofs.Tryz.prog 19 vnm3_1 := run_of (c := Go.Proofs.Tryz.f19.body.getD .skip) (rs := Go.Proofs.Tryz.f19.results.toList) (k := Go.Proofs.Tryz.f19.ntmps) hm tysOk tyR vnfOk3 vnxOk3 vnxR3 (by kernel_rfl) (by kernel_rfl) (endM_fast vnm3_1r)
theorem vnm3_2R : RunOf Go.Proofs.Tryz.prog 19 vnm3_2 := run_of (c := Go.Proofs.Tryz.f19.body.getD .skip) (rs := Go.Proofs.Tryz.f19.results.toList) (k := Go.Proofs.Tryz.f19.ntmps) hm tysOk tyR vnfOk3 vnxOk3 vnxR3 (by kernel_rfl) (by kernel_rfl) (endM_fast vnm3_2r)
theorem vnm3_3R : RunOf Go.Proofs.Tryz.prog 19 vnm3_3 := run_of (c := Go.Proofs.Tryz.f19.body.getD .skip) (rs := Go.Proofs.Tryz.f19.results.toList) (k := Go.Proofs.Tryz.f19.ntmps) hm tysOk tyR vnfOk3 vnxOk3 vnxR3 (by kernel_rfl) (by kernel_rfl) (endM_fast vnm3_3r)
theorem vnall3 : ∀ m, m ∈ vnes3 → RunOf Go.Proofs.Tryz.prog 19 m := by
  intro m hm
  simp only [vnes3, List.mem_cons, List.not_mem_nil, or_false] at hm
  rcases hm with rfl | rfl | rfl | rfl
  · exact vnm3_0R
  · exact vnm3_1R
  · exact vnm3_2R
  · exact vnm3_3R
noncomputable def vnx4 : Nat → Option CallP := overI vnx3 19 (pSem Go.Proofs.Tryz.prog 19)
theorem vnfOk4 : FnsOk Go.Proofs.Tryz.prog vnf4 := vnfOk3.over 19 (iMemo vnes3)
theorem vnxOk4 : IxOk Go.Proofs.Tryz.prog vnx4 := vnxOk3.over (pSem_sound Go.Proofs.Tryz.call19)
theorem vnxR4 : IxR vnf4 vnx4 := vnxR3.over (iMemo_R1 vnall3)
theorem vnm4_0R : RunOf Go.Proofs.Tryz.prog 7 vnm4_0 := run_of (c := Go.Proofs.Tryz.f7.body.getD .skip) (rs := Go.Proofs.Tryz.f7.results.toList) (k := Go.Proofs.Tryz.f7.ntmps) hm tysOk tyR vnfOk4 vnxOk4 vnxR4 (by kernel_rfl) (by kernel_rfl) (endM_fast vnm4_0r)
theorem vnm4_1R : RunOf Go.Proofs.Tryz.prog 7 vnm4_1 := run_of (c := Go.Proofs.Tryz.f7.body.getD .skip) (rs := Go.Proofs.Tryz.f7.results.toList) (k := Go.Proofs.Tryz.f7.ntmps) hm tysOk tyR vnfOk4 vnxOk4 vnxR4 (by kernel_rfl) (by kernel_rfl) (endM_fast vnm4_1r)
theorem vnm4_2R : RunOf Go.Proofs.Tryz.prog 7 vnm4_2 := run_of (c := Go.Proofs.Tryz.f7.body.getD .skip) (rs := Go.Proofs.Tryz.f7.results.toList) (k := Go.Proofs.Tryz.f7.ntmps) hm tysOk tyR vnfOk4 vnxOk4 vnxR4 (by kernel_rfl) (by kernel_rfl) (endM_fast vnm4_2r)
theorem vnm4_3R : RunOf Go.Proofs.Tryz.prog 7 vnm4_3 := run_of (c := Go.Proofs.Tryz.f7.body.getD .skip) (rs := Go.Proofs.Tryz.f7.results.toList) (k := Go.Proofs.Tryz.f7.ntmps) hm tysOk tyR vnfOk4 vnxOk4 vnxR4 (by kernel_rfl) (by kernel_rfl) (endM_fast vnm4_3r)
theorem vnm4_4R : RunOf Go.Proofs.Tryz.prog 7 vnm4_4 := run_of (c := Go.Proofs.Tryz.f7.body.getD .skip) (rs := Go.Proofs.Tryz.f7.results.toList) (k := Go.Proofs.Tryz.f7.ntmps) hm tysOk tyR vnfOk4 vnxOk4 vnxR4 (by kernel_rfl) (by kernel_rfl) (endM_fast vnm4_4r)
theorem vnm4_5R : RunOf Go.Proofs.Tryz.prog 7 vnm4_5 := run_of (c := Go.Proofs.Tryz.f7.body.getD .skip) (rs := Go.Proofs.Tryz.f7.results.toList) (k := Go.Proofs.Tryz.f7.ntmps) hm tysOk tyR vnfOk4 vnxOk4 vnxR4 (by kernel_rfl) (by kernel_rfl) (endM_fast vnm4_5r)
theorem vnm4_6R : RunOf Go.Proofs.Tryz.prog 7 vnm4_6 := run_of (c := Go.Proofs.Tryz.f7.body.getD .skip) (rs := Go.Proofs.Tryz.f7.results.toList) (k := Go.Proofs.Tryz.f7.ntmps) hm tysOk tyR vnfOk4 vnxOk4 vnxR4 (by kernel_rfl) (by kernel_rfl) (endM_fast vnm4_6r)
theorem vnm4_7R : RunOf Go.Proofs.Tryz.prog 7 vnm4_7 := run_of (c := Go.Proofs.Tryz.f7.body.getD .skip) (rs := Go.Proofs.Tryz.f7.results.toList) (k := Go.Proofs.Tryz.f7.ntmps) hm tysOk tyR vnfOk4 vnxOk4 vnxR4 (by kernel_rfl) (by kernel_rfl) (endM_fast vnm4_7r)
theorem vnall4 : ∀ m, m ∈ vnes4 → RunOf Go.Proofs.Tryz.prog 7 m := by
  intro m hm
  simp only [vnes4, List.mem_cons, List.not_mem_nil, or_false] at hm
  rcases hm with rfl | rfl | rfl | rfl | rfl | rfl | rfl | rfl
  · exact vnm4_0R
  · exact vnm4_1R
  · exact vnm4_2R
  · exact vnm4_3R
  · exact vnm4_4R
  · exact vnm4_5R
  · exact vnm4_6R
  · exact vnm4_7R
noncomputable def vnx5 : Nat → Option CallP := overI vnx4 7 (pSem Go.Proofs.Tryz.prog 7)
theorem vnfOk5 : FnsOk Go.Proofs.Tryz.prog vnf5 := vnfOk4.over 7 (iMemo vnes4)
theorem vnxOk5 : IxOk Go.Proofs.Tryz.prog vnx5 := vnxOk4.over (pSem_sound Go.Proofs.Tryz.call7)
theorem vnxR5 : IxR vnf5 vnx5 := vnxR4.over (iMemo_R1 vnall4)
theorem vnm5_0R : RunOf Go.Proofs.Tryz.prog 109 vnm5_0 := run_of (c := Go.Proofs.Tryz.f109.body.getD .skip) (rs := Go.Proofs.Tryz.f109.results.toList) (k := Go.Proofs.Tryz.f109.ntmps) hm tysOk tyR vnfOk5 vnxOk5 vnxR5 (by kernel_rfl) (by kernel_rfl) (endM_fast vnm5_0r)
theorem vnm5_1R : RunOf Go.Proofs.Tryz.prog 109 vnm5_1 := run_of (c := Go.Proofs.Tryz.f109.body.getD .skip) (rs := Go.Proofs.Tryz.f109.results.toList) (k := Go.Proofs.Tryz.f109.ntmps) hm tysOk tyR vnfOk5 vnxOk5 vnxR5 (by kernel_rfl) (by kernel_rfl) (endM_fast vnm5_1r)
theorem vnall5 : ∀ m, m ∈ vnes5 → RunOf Go.Proofs.Tryz.prog 109 m := by
  intro m hm
  simp only [vnes5, List.mem_cons, List.not_mem_nil, or_false] at hm
  rcases hm with rfl | rfl
  · exact vnm5_0R
  · exact vnm5_1R
noncomputable def vnx6 : Nat → Option CallP := overI vnx5 109 (pSem Go.Proofs.Tryz.prog 109)
theorem vnfOk6 : FnsOk Go.Proofs.Tryz.prog vnf6 := vnfOk5.over 109 (iMemo vnes5)
theorem vnxOk6 : IxOk Go.Proofs.Tryz.prog vnx6 := vnxOk5.over (pSem_sound Go.Proofs.Tryz.call109)
theorem vnxR6 : IxR vnf6 vnx6 := vnxR5.over (iMemo_R1 vnall5)
theorem vnm6_0R : RunOf Go.Proofs.Tryz.prog 49 vnm6_0 := run_of (c := Go.Proofs.Tryz.f49.body.getD .skip) (rs := Go.Proofs.Tryz.f49.results.toList) (k := Go.Proofs.Tryz.f49.ntmps) hm tysOk tyR vnfOk6 vnxOk6 vnxR6 (by kernel_rfl) (by kernel_rfl) (endM_fast vnm6_0r)
theorem vnm6_1R : RunOf Go.Proofs.Tryz.prog 49 vnm6_1 := run_of (c := Go.Proofs.Tryz.f49.body.getD .skip) (rs := Go.Proofs.Tryz.f49.results.toList) (k := Go.Proofs.Tryz.f49.ntmps) hm tysOk tyR vnfOk6 vnxOk6 vnxR6 (by kernel_rfl) (by kernel_rfl) (endM_fast vnm6_1r)
theorem vnall6 : ∀ m, m ∈ vnes6 → RunOf Go.Proofs.Tryz.prog 49 m := by
  intro m hm
  simp only [vnes6, List.mem_cons, List.not_mem_nil, or_false] at hm
  rcases hm with rfl | rfl
  · exact vnm6_0R
  · exact vnm6_1R
noncomputable def vnx7 : Nat → Option CallP := overI vnx6 49 (pSem Go.Proofs.Tryz.prog 49)
theorem vnfOk7 : FnsOk Go.Proofs.Tryz.prog vnf7 := vnfOk6.over 49 (iMemo vnes6)
theorem vnxOk7 : IxOk Go.Proofs.Tryz.prog vnx7 := vnxOk6.over (pSem_sound Go.Proofs.Tryz.call49)
theorem vnxR7 : IxR vnf7 vnx7 := vnxR6.over (iMemo_R1 vnall6)
theorem vnm7_0R : RunOf Go.Proofs.Tryz.prog 11 vnm7_0 := run_of (c := Go.Proofs.Tryz.f11.body.getD .skip) (rs := Go.Proofs.Tryz.f11.results.toList) (k := Go.Proofs.Tryz.f11.ntmps) hm tysOk tyR vnfOk7 vnxOk7 vnxR7 (by kernel_rfl) (by kernel_rfl) (endM_fast vnm7_0r)
theorem vnm7_1R : RunOf Go.Proofs.Tryz.prog 11 vnm7_1 := run_of (c := Go.Proofs.Tryz.f11.body.getD .skip) (rs := Go.Proofs.Tryz.f11.results.toList) (k := Go.Proofs.Tryz.f11.ntmps) hm tysOk tyR vnfOk7 vnxOk7 vnxR7 (by kernel_rfl) (by kernel_rfl) (endM_fast vnm7_1r)
theorem vnm7_2R : RunOf Go.Proofs.Tryz.prog 11 vnm7_2 := run_of (c := Go.Proofs.Tryz.f11.body.getD .skip) (rs := Go.Proofs.Tryz.f11.results.toList) (k := Go.Proofs.Tryz.f11.ntmps) hm tysOk tyR vnfOk7 vnxOk7 vnxR7 (by kernel_rfl) (by kernel_rfl) (endM_fast vnm7_2r)
theorem vnm7_3R : RunOf Go.Proofs.Tryz.prog 11 vnm7_3 := run_of (c := Go.Proofs.Tryz.f11.body.getD .skip) (rs := Go.Proofs.Tryz.f11.results.toList) (k := Go.Proofs.Tryz.f11.ntmps) hm tysOk tyR vnfOk7 vnxOk7 vnxR7 (by kernel_rfl) (by kernel_rfl) (endM_fast vnm7_3r)
theorem vnm7_4R : RunOf Go.Proofs.Tryz.prog 11 vnm7_4 := run_of (c := Go.Proofs.Tryz.f11.body.getD .skip) (rs := Go.Proofs.Tryz.f11.results.toList) (k := Go.Proofs.Tryz.f11.ntmps) hm tysOk tyR vnfOk7 vnxOk7 vnxR7 (by kernel_rfl) (by kernel_rfl) (endM_fast vnm7_4r)
theorem vnm7_5R : RunOf Go.Proofs.Tryz.prog 11 vnm7_5 := run_of (c := Go.Proofs.Tryz.f11.body.getD .skip) (rs := Go.Proofs.Tryz.f11.results.toList) (k := Go.Proofs.Tryz.f11.ntmps) hm tysOk tyR vnfOk7 vnxOk7 vnxR7 (by kernel_rfl) (by kernel_rfl) (endM_fast vnm7_5r)
theorem vnm7_6R : RunOf Go.Proofs.Tryz.prog 11 vnm7_6 := run_of (c := Go.Proofs.Tryz.f11.body.getD .skip) (rs := Go.Proofs.Tryz.f11.results.toList) (k := Go.Proofs.Tryz.f11.ntmps) hm tysOk tyR vnfOk7 vnxOk7 vnxR7 (by kernel_rfl) (by kernel_rfl) (endM_fast vnm7_6r)
theorem vnall7 : ∀ m, m ∈ vnes7 → RunOf Go.Proofs.Tryz.prog 11 m := by
  intro m hm
  simp only [vnes7, List.mem_cons, List.not_mem_nil, or_false] at hm
  rcases hm with rfl | rfl | rfl | rfl | rfl | rfl | rfl
  · exact vnm7_0R
  · exact vnm7_1R
  · exact vnm7_2R
  · exact vnm7_3R
  · exact vnm7_4R
  · exact vnm7_5R
  · exact vnm7_6R
noncomputable def vnx8 : Nat → Option CallP := overI vnx7 11 (pSem Go.Proofs.Tryz.prog 11)
theorem vnfOk8 : FnsOk Go.Proofs.Tryz.prog vnf8 := vnfOk7.over 11 (iMemo vnes7)
theorem vnxOk8 : IxOk Go.Proofs.Tryz.prog vnx8 := vnxOk7.over (pSem_sound Go.Proofs.Tryz.call11)
theorem vnxR8 : IxR vnf8 vnx8 := vnxR7.over (iMemo_R1 vnall7)
theorem vnm8_0R : RunOf Go.Proofs.Tryz.prog 12 vnm8_0 := run_of (c := Go.Proofs.Tryz.f12.body.getD .skip) (rs := Go.Proofs.Tryz.f12.results.toList) (k := Go.Proofs.Tryz.f12.ntmps) hm tysOk tyR vnfOk8 vnxOk8 vnxR8 (by kernel_rfl) (by kernel_rfl) (endM_fast vnm8_0r)
theorem vnm8_1R : RunOf Go.Proofs.Tryz.prog 12 vnm8_1 := run_of (c := Go.Proofs.Tryz.f12.body.getD .skip) (rs := Go.Proofs.Tryz.f12.results.toList) (k := Go.Proofs.Tryz.f12.ntmps) hm tysOk tyR vnfOk8 vnxOk8 vnxR8 (by kernel_rfl) (by kernel_rfl) (endM_fast vnm8_1r)
theorem vnm8_2R : RunOf Go.Proofs.Tryz.prog 12 vnm8_2 := run_of (c := Go.Proofs.Tryz.f12.body.getD .skip) (rs := Go.Proofs.Tryz.f12.results.toList) (k := Go.Proofs.Tryz.f12.ntmps) hm tysOk tyR vnfOk8 vnxOk8 vnxR8 (by kernel_rfl) (by kernel_rfl) (endM_fast vnm8_2r)
theorem vnall8 : ∀ m, m ∈ vnes8 → RunOf Go.Proofs.Tryz.prog 12 m := by
  intro m hm
  simp only [vnes8, List.mem_cons, List.not_mem_nil, or_false] at hm
  rcases hm with rfl | rfl | rfl
  · exact vnm8_0R
  · exact vnm8_1R
  · exact vnm8_2R
noncomputable def vnx9 : Nat → Option CallP := overI vnx8 12 (pSem Go.Proofs.Tryz.prog 12)
theorem vnfOk9 : FnsOk Go.Proofs.Tryz.prog vnf9 := vnfOk8.over 12 (iMemo vnes8)
theorem vnxOk9 : IxOk Go.Proofs.Tryz.prog vnx9 := vnxOk8.over (pSem_sound Go.Proofs.Tryz.call12)
theorem vnxR9 : IxR vnf9 vnx9 := vnxR8.over (iMemo_R1 vnall8)
theorem vnm9_0R : RunOf Go.Proofs.Tryz.prog 6 vnm9_0 := run_of (c := Go.Proofs.Tryz.f6.body.getD .skip) (rs := Go.Proofs.Tryz.f6.results.toList) (k := Go.Proofs.Tryz.f6.ntmps) hm tysOk tyR vnfOk9 vnxOk9 vnxR9 (by kernel_rfl) (by kernel_rfl) (endM_fast vnm9_0r)
theorem vnm9_1R : RunOf Go.Proofs.Tryz.prog 6 vnm9_1 := run_of (c := Go.Proofs.Tryz.f6.body.getD .skip) (rs := Go.Proofs.Tryz.f6.results.toList) (k := Go.Proofs.Tryz.f6.ntmps) hm tysOk tyR vnfOk9 vnxOk9 vnxR9 (by kernel_rfl) (by kernel_rfl) (endM_fast vnm9_1r)
theorem vnall9 : ∀ m, m ∈ vnes9 → RunOf Go.Proofs.Tryz.prog 6 m := by
  intro m hm
  simp only [vnes9, List.mem_cons, List.not_mem_nil, or_false] at hm
  rcases hm with rfl | rfl
  · exact vnm9_0R
  · exact vnm9_1R
noncomputable def vnx10 : Nat → Option CallP := overI vnx9 6 (pSem Go.Proofs.Tryz.prog 6)
theorem vnfOk10 : FnsOk Go.Proofs.Tryz.prog vnf10 := vnfOk9.over 6 (iMemo vnes9)
theorem vnxOk10 : IxOk Go.Proofs.Tryz.prog vnx10 := vnxOk9.over (pSem_sound Go.Proofs.Tryz.call6)
theorem vnxR10 : IxR vnf10 vnx10 := vnxR9.over (iMemo_R1 vnall9)
theorem vnm10_0R : RunOf Go.Proofs.Tryz.prog 15 vnm10_0 := run_of (c := Go.Proofs.Tryz.f15.body.getD .skip) (rs := Go.Proofs.Tryz.f15.results.toList) (k := Go.Proofs.Tryz.f15.ntmps) hm tysOk tyR vnfOk10 vnxOk10 vnxR10 (by kernel_rfl) (by kernel_rfl) (endM_fast vnm10_0r)
theorem vnall10 : ∀ m, m ∈ vnes10 → RunOf Go.Proofs.Tryz.prog 15 m := by
  intro m hm
  simp only [vnes10, List.mem_cons, List.not_mem_nil, or_false] at hm
  rcases hm with rfl
  exact vnm10_0R
noncomputable def vnx11 : Nat → Option CallP := overI vnx10 15 (pSem Go.Proofs.Tryz.prog 15)
theorem vnfOk11 : FnsOk Go.Proofs.Tryz.prog vnf11 := vnfOk10.over 15 (iMemo vnes10)
theorem vnxOk11 : IxOk Go.Proofs.Tryz.prog vnx11 := vnxOk10.over (pSem_sound Go.Proofs.Tryz.call15)
theorem vnxR11 : IxR vnf11 vnx11 := vnxR10.over (iMemo_R1 vnall10)
theorem vnm11_0R : RunOf Go.Proofs.Tryz.prog 3 vnm11_0 := run_of (c := Go.Proofs.Tryz.f3.body.getD .skip) (rs := Go.Proofs.Tryz.f3.results.toList) (k := Go.Proofs.Tryz.f3.ntmps) hm tysOk tyR vnfOk11 vnxOk11 vnxR11 (by kernel_rfl) (by kernel_rfl) (endM_fast vnm11_0r)
theorem vnall11 : ∀ m, m ∈ vnes11 → RunOf Go.Proofs.Tryz.prog 3 m := by
  intro m hm
  simp only [vnes11, List.mem_cons, List.not_mem_nil, or_false] at hm
  rcases hm with rfl
  exact vnm11_0R
noncomputable def vnx12 : Nat → Option CallP := overI vnx11 3 (pSem Go.Proofs.Tryz.prog 3)
theorem vnfOk12 : FnsOk Go.Proofs.Tryz.prog vnf12 := vnfOk11.over 3 (iMemo vnes11)
theorem vnxOk12 : IxOk Go.Proofs.Tryz.prog vnx12 := vnxOk11.over (pSem_sound Go.Proofs.Tryz.call3)
theorem vnxR12 : IxR vnf12 vnx12 := vnxR11.over (iMemo_R1 vnall11)
end Go.XS.Tryz
