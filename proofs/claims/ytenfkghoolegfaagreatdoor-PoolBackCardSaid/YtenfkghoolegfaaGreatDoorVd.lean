/- A part of the proof of PoolBack. No condition of its own. -/
import Derived.Test.YtenfkghoolegfaaGreatDoorVz
import Derived.Test.YtenfkghoolegfaaGreatDoorProg
import Derived.Test.YtenfkghoolegfaaGreatDoorVc
import Derived.KernelRfl
import Derived.Lib.ItoaNum
import Derived.Laws.Externs
import Derived.Test.YtenfkghoolegfaaGreatDoorRows
import Derived.WalkKit
import Derived.ProofKit
import Derived.OpenShut
import Derived.ShutString
import Derived.ChangeOld
import Derived.ChangeSame
import Derived.ChangeVars
import Derived.JoinedOf
import Derived.RowKit
import Derived.RowKitTokens
import Derived.LaidLaws
import Derived.LaidHandle
import Derived.Stop.Joined
import Derived.Below
import Derived.Lib.SmallJoins
import Derived.SizedLaws
import Derived.Lib.Hide
set_option maxRecDepth 1000000
set_option linter.unusedVariables false
namespace Go.Proofs.YtenfkghoolegfaaGreatDoor.Ev
noncomputable def fnT:T Func:=(.node (some Tryz.f0) (.node (some Tryz.f1) (.node (some Tryz.f3) (.node (some Tryz.f7) (.node (some Tryz.f15) (.node (some Tryz.f31) (.node (some Tryz.f63) (.node (some Tryz.f127) (.node (some Tryz.f255) .leaf .leaf) .leaf) (.node (some Tryz.f191) .leaf .leaf)) (.node (some Tryz.f95) (.node (some Tryz.f159) .leaf .leaf) (.node (some Tryz.f223) .leaf .leaf))) (.node (some Tryz.f47) (.node (some Tryz.f79) (.node (some Tryz.f143) .leaf .leaf) (.node (some Tryz.f207) .leaf .leaf)) (.node (some Tryz.f111) (.node (some Tryz.f175) .leaf .leaf) (.node (some Tryz.f239) .leaf .leaf)))) (.node (some Tryz.f23) (.node (some Tryz.f39) (.node (some Tryz.f71) (.node (some Tryz.f135) (.node (some Tryz.f263) .leaf .leaf) .leaf) (.node (some Tryz.f199) .leaf .leaf)) (.node (some Tryz.f103) (.node (some Tryz.f167) .leaf .leaf) (.node (some Tryz.f231) .leaf .leaf))) (.node (some Tryz.f55) (.node (some Tryz.f87) (.node (some Tryz.f151) .leaf .leaf) (.node (some Tryz.f215) .leaf .leaf)) (.node (some Tryz.f119) (.node (some Tryz.f183) .leaf .leaf) (.node (some Tryz.f247) .leaf .leaf))))) (.node (some Tryz.f11) (.node (some Tryz.f19) (.node (some Tryz.f35) (.node (some Tryz.f67) (.node (some Tryz.f131) (.node (some Tryz.f259) .leaf .leaf) .leaf) (.node (some Tryz.f195) .leaf .leaf)) (.node (some Tryz.f99) (.node (some Tryz.f163) .leaf .leaf) (.node (some Tryz.f227) .leaf .leaf))) (.node (some Tryz.f51) (.node (some Tryz.f83) (.node (some Tryz.f147) .leaf .leaf) (.node (some Tryz.f211) .leaf .leaf)) (.node (some Tryz.f115) (.node (some Tryz.f179) .leaf .leaf) (.node (some Tryz.f243) .leaf .leaf)))) (.node (some Tryz.f27) (.node (some Tryz.f43) (.node (some Tryz.f75) (.node (some Tryz.f139) (.node (some Tryz.f267) .leaf .leaf) .leaf) (.node (some Tryz.f203) .leaf .leaf)) (.node (some Tryz.f107) (.node (some Tryz.f171) .leaf .leaf) (.node (some Tryz.f235) .leaf .leaf))) (.node (some Tryz.f59) (.node (some Tryz.f91) (.node (some Tryz.f155) .leaf .leaf) (.node (some Tryz.f219) .leaf .leaf)) (.node (some Tryz.f123) (.node (some Tryz.f187) .leaf .leaf) (.node (some Tryz.f251) .leaf .leaf)))))) (.node (some Tryz.f5) (.node (some Tryz.f9) (.node (some Tryz.f17) (.node (some Tryz.f33) (.node (some Tryz.f65) (.node (some Tryz.f129) (.node (some Tryz.f257) .leaf .leaf) .leaf) (.node (some Tryz.f193) .leaf .leaf)) (.node (some Tryz.f97) (.node (some Tryz.f161) .leaf .leaf) (.node (some Tryz.f225) .leaf .leaf))) (.node (some Tryz.f49) (.node (some Tryz.f81) (.node (some Tryz.f145) .leaf .leaf) (.node (some Tryz.f209) .leaf .leaf)) (.node (some Tryz.f113) (.node (some Tryz.f177) .leaf .leaf) (.node (some Tryz.f241) .leaf .leaf)))) (.node (some Tryz.f25) (.node (some Tryz.f41) (.node (some Tryz.f73) (.node (some Tryz.f137) (.node (some Tryz.f265) .leaf .leaf) .leaf) (.node (some Tryz.f201) .leaf .leaf)) (.node (some Tryz.f105) (.node (some Tryz.f169) .leaf .leaf) (.node (some Tryz.f233) .leaf .leaf))) (.node (some Tryz.f57) (.node (some Tryz.f89) (.node (some Tryz.f153) .leaf .leaf) (.node (some Tryz.f217) .leaf .leaf)) (.node (some Tryz.f121) (.node (some Tryz.f185) .leaf .leaf) (.node (some Tryz.f249) .leaf .leaf))))) (.node (some Tryz.f13) (.node (some Tryz.f21) (.node (some Tryz.f37) (.node (some Tryz.f69) (.node (some Tryz.f133) (.node (some Tryz.f261) .leaf .leaf) .leaf) (.node (some Tryz.f197) .leaf .leaf)) (.node (some Tryz.f101) (.node (some Tryz.f165) .leaf .leaf) (.node (some Tryz.f229) .leaf .leaf))) (.node (some Tryz.f53) (.node (some Tryz.f85) (.node (some Tryz.f149) .leaf .leaf) (.node (some Tryz.f213) .leaf .leaf)) (.node (some Tryz.f117) (.node (some Tryz.f181) .leaf .leaf) (.node (some Tryz.f245) .leaf .leaf)))) (.node (some Tryz.f29) (.node (some Tryz.f45) (.node (some Tryz.f77) (.node (some Tryz.f141) .leaf .leaf) (.node (some Tryz.f205) .leaf .leaf)) (.node (some Tryz.f109) (.node (some Tryz.f173) .leaf .leaf) (.node (some Tryz.f237) .leaf .leaf))) (.node (some Tryz.f61) (.node (some Tryz.f93) (.node (some Tryz.f157) .leaf .leaf) (.node (some Tryz.f221) .leaf .leaf)) (.node (some Tryz.f125) (.node (some Tryz.f189) .leaf .leaf) (.node (some Tryz.f253) .leaf .leaf))))))) (.node (some Tryz.f2) (.node (some Tryz.f4) (.node (some Tryz.f8) (.node (some Tryz.f16) (.node (some Tryz.f32) (.node (some Tryz.f64) (.node (some Tryz.f128) (.node (some Tryz.f256) .leaf .leaf) .leaf) (.node (some Tryz.f192) .leaf .leaf)) (.node (some Tryz.f96) (.node (some Tryz.f160) .leaf .leaf) (.node (some Tryz.f224) .leaf .leaf))) (.node (some Tryz.f48) (.node (some Tryz.f80) (.node (some Tryz.f144) .leaf .leaf) (.node (some Tryz.f208) .leaf .leaf)) (.node (some Tryz.f112) (.node (some Tryz.f176) .leaf .leaf) (.node (some Tryz.f240) .leaf .leaf)))) (.node (some Tryz.f24) (.node (some Tryz.f40) (.node (some Tryz.f72) (.node (some Tryz.f136) (.node (some Tryz.f264) .leaf .leaf) .leaf) (.node (some Tryz.f200) .leaf .leaf)) (.node (some Tryz.f104) (.node (some Tryz.f168) .leaf .leaf) (.node (some Tryz.f232) .leaf .leaf))) (.node (some Tryz.f56) (.node (some Tryz.f88) (.node (some Tryz.f152) .leaf .leaf) (.node (some Tryz.f216) .leaf .leaf)) (.node (some Tryz.f120) (.node (some Tryz.f184) .leaf .leaf) (.node (some Tryz.f248) .leaf .leaf))))) (.node (some Tryz.f12) (.node (some Tryz.f20) (.node (some Tryz.f36) (.node (some Tryz.f68) (.node (some Tryz.f132) (.node (some Tryz.f260) .leaf .leaf) .leaf) (.node (some Tryz.f196) .leaf .leaf)) (.node (some Tryz.f100) (.node (some Tryz.f164) .leaf .leaf) (.node (some Tryz.f228) .leaf .leaf))) (.node (some Tryz.f52) (.node (some Tryz.f84) (.node (some Tryz.f148) .leaf .leaf) (.node (some Tryz.f212) .leaf .leaf)) (.node (some Tryz.f116) (.node (some Tryz.f180) .leaf .leaf) (.node (some Tryz.f244) .leaf .leaf)))) (.node (some Tryz.f28) (.node (some Tryz.f44) (.node (some Tryz.f76) (.node (some Tryz.f140) (.node (some Tryz.f268) .leaf .leaf) .leaf) (.node (some Tryz.f204) .leaf .leaf)) (.node (some Tryz.f108) (.node (some Tryz.f172) .leaf .leaf) (.node (some Tryz.f236) .leaf .leaf))) (.node (some Tryz.f60) (.node (some Tryz.f92) (.node (some Tryz.f156) .leaf .leaf) (.node (some Tryz.f220) .leaf .leaf)) (.node (some Tryz.f124) (.node (some Tryz.f188) .leaf .leaf) (.node (some Tryz.f252) .leaf .leaf)))))) (.node (some Tryz.f6) (.node (some Tryz.f10) (.node (some Tryz.f18) (.node (some Tryz.f34) (.node (some Tryz.f66) (.node (some Tryz.f130) (.node (some Tryz.f258) .leaf .leaf) .leaf) (.node (some Tryz.f194) .leaf .leaf)) (.node (some Tryz.f98) (.node (some Tryz.f162) .leaf .leaf) (.node (some Tryz.f226) .leaf .leaf))) (.node (some Tryz.f50) (.node (some Tryz.f82) (.node (some Tryz.f146) .leaf .leaf) (.node (some Tryz.f210) .leaf .leaf)) (.node (some Tryz.f114) (.node (some Tryz.f178) .leaf .leaf) (.node (some Tryz.f242) .leaf .leaf)))) (.node (some Tryz.f26) (.node (some Tryz.f42) (.node (some Tryz.f74) (.node (some Tryz.f138) (.node (some Tryz.f266) .leaf .leaf) .leaf) (.node (some Tryz.f202) .leaf .leaf)) (.node (some Tryz.f106) (.node (some Tryz.f170) .leaf .leaf) (.node (some Tryz.f234) .leaf .leaf))) (.node (some Tryz.f58) (.node (some Tryz.f90) (.node (some Tryz.f154) .leaf .leaf) (.node (some Tryz.f218) .leaf .leaf)) (.node (some Tryz.f122) (.node (some Tryz.f186) .leaf .leaf) (.node (some Tryz.f250) .leaf .leaf))))) (.node (some Tryz.f14) (.node (some Tryz.f22) (.node (some Tryz.f38) (.node (some Tryz.f70) (.node (some Tryz.f134) (.node (some Tryz.f262) .leaf .leaf) .leaf) (.node (some Tryz.f198) .leaf .leaf)) (.node (some Tryz.f102) (.node (some Tryz.f166) .leaf .leaf) (.node (some Tryz.f230) .leaf .leaf))) (.node (some Tryz.f54) (.node (some Tryz.f86) (.node (some Tryz.f150) .leaf .leaf) (.node (some Tryz.f214) .leaf .leaf)) (.node (some Tryz.f118) (.node (some Tryz.f182) .leaf .leaf) (.node (some Tryz.f246) .leaf .leaf)))) (.node (some Tryz.f30) (.node (some Tryz.f46) (.node (some Tryz.f78) (.node (some Tryz.f142) .leaf .leaf) (.node (some Tryz.f206) .leaf .leaf)) (.node (some Tryz.f110) (.node (some Tryz.f174) .leaf .leaf) (.node (some Tryz.f238) .leaf .leaf))) (.node (some Tryz.f62) (.node (some Tryz.f94) (.node (some Tryz.f158) .leaf .leaf) (.node (some Tryz.f222) .leaf .leaf)) (.node (some Tryz.f126) (.node (some Tryz.f190) .leaf .leaf) (.node (some Tryz.f254) .leaf .leaf))))))))
noncomputable def tyL:List (TypeInfo × TypeInfo):=[(Tryz.t0,Tryz.t0),(Tryz.t1,Tryz.t1),(Tryz.t2,Tryz.t2),(Tryz.t3,Tryz.t3),(Tryz.t4,Tryz.t4),(Tryz.t5,Tryz.t5),(Tryz.t6,Tryz.t5),(Tryz.t7,Tryz.t7),(Tryz.t8,Tryz.t7),(Tryz.t9,Tryz.t9),(Tryz.t10,Tryz.t9),(Tryz.t11,Tryz.t9),(Tryz.t12,Tryz.t12),(Tryz.t13,Tryz.t13),(Tryz.t14,Tryz.t13),(Tryz.t15,Tryz.t15),(Tryz.t16,Tryz.t16),(Tryz.t17,Tryz.t17),(Tryz.t18,Tryz.t18),(Tryz.t19,Tryz.t18),(Tryz.t20,Tryz.t20),(Tryz.t21,Tryz.t21),(Tryz.t22,Tryz.t22),(Tryz.t23,Tryz.t23),(Tryz.t24,Tryz.t24),(Tryz.t25,Tryz.t24),(Tryz.t26,Tryz.t26),(Tryz.t27,Tryz.t27),(Tryz.t28,Tryz.t28),(Tryz.t29,Tryz.t29),(Tryz.t30,Tryz.t30),(Tryz.t31,Tryz.t31),(Tryz.t32,Tryz.t32),(Tryz.t33,Tryz.t33),(Tryz.t34,Tryz.t34),(Tryz.t35,Tryz.t35),(Tryz.t36,Tryz.t36),(Tryz.t37,Tryz.t36),(Tryz.t38,Tryz.t38),(Tryz.t39,Tryz.t39),(Tryz.t40,Tryz.t40),(Tryz.t41,Tryz.t41),(Tryz.t42,Tryz.t42),(Tryz.t43,Tryz.t42),(Tryz.t44,Tryz.t44),(Tryz.t45,Tryz.t45),(Tryz.t46,Tryz.t46),(Tryz.t47,Tryz.t47),(Tryz.t48,Tryz.t48),(Tryz.t49,Tryz.t49),(Tryz.t50,Tryz.t50),(Tryz.t51,Tryz.t51),(Tryz.t52,Tryz.t51),(Tryz.t53,Tryz.t53),(Tryz.t54,Tryz.t54),(Tryz.t55,Tryz.t55),(Tryz.t56,Tryz.t56),(Tryz.t57,Tryz.t57),(Tryz.t58,Tryz.t58),(Tryz.t59,Tryz.t58),(Tryz.t60,Tryz.t60),(Tryz.t61,Tryz.t61),(Tryz.t62,Tryz.t62),(Tryz.t63,Tryz.t63),(Tryz.t64,Tryz.t64),(Tryz.t65,Tryz.t65),(Tryz.t66,Tryz.t65),(Tryz.t67,Tryz.t67),(Tryz.t68,Tryz.t68),(Tryz.t69,Tryz.t69),(Tryz.t70,Tryz.t70),(Tryz.t71,Tryz.t71),(Tryz.t72,Tryz.t72),(Tryz.t73,Tryz.t73),(Tryz.t74,Tryz.t74),(Tryz.t75,Tryz.t75),(Tryz.t76,Tryz.t76),(Tryz.t77,Tryz.t77),(Tryz.t78,Tryz.t78),(Tryz.t79,Tryz.t79),(Tryz.t80,Tryz.t3),(Tryz.t81,Tryz.t81),(Tryz.t82,Tryz.t82),(Tryz.t83,Tryz.t83),(Tryz.t84,Tryz.t84),(Tryz.t85,Tryz.t85),(Tryz.t86,Tryz.t86),(Tryz.t87,Tryz.t87),(Tryz.t88,Tryz.t88),(Tryz.t89,Tryz.t89),(Tryz.t90,Tryz.t90),(Tryz.t91,Tryz.t91),(Tryz.t92,Tryz.t92),(Tryz.t93,Tryz.t92),(Tryz.t94,Tryz.t94),(Tryz.t95,Tryz.t94),(Tryz.t96,Tryz.t96),(Tryz.t97,Tryz.t97),(Tryz.t98,Tryz.t98),(Tryz.t99,Tryz.t99),(Tryz.t100,Tryz.t99),(Tryz.t101,Tryz.t101),(Tryz.t102,Tryz.t102),(Tryz.t103,Tryz.t103),(Tryz.t104,Tryz.t104),(Tryz.t105,Tryz.t104),(Tryz.t106,Tryz.t106),(Tryz.t107,Tryz.t107),(Tryz.t108,Tryz.t108),(Tryz.t109,Tryz.t109),(Tryz.t110,Tryz.t110),(Tryz.t111,Tryz.t111),(Tryz.t112,Tryz.t112),(Tryz.t113,Tryz.t112),(Tryz.t114,Tryz.t114),(Tryz.t115,Tryz.t115),(Tryz.t116,Tryz.t116),(Tryz.t117,Tryz.t117),(Tryz.t118,Tryz.t118),(Tryz.t119,Tryz.t119),(Tryz.t120,Tryz.t120),(Tryz.t121,Tryz.t121),(Tryz.t122,Tryz.t122),(Tryz.t123,Tryz.t123),(Tryz.t124,Tryz.t123),(Tryz.t125,Tryz.t125),(Tryz.t126,Tryz.t126),(Tryz.t127,Tryz.t127),(Tryz.t128,Tryz.t128),(Tryz.t129,Tryz.t128),(Tryz.t130,Tryz.t130),(Tryz.t131,Tryz.t131),(Tryz.t132,Tryz.t132),(Tryz.t133,Tryz.t133),(Tryz.t134,Tryz.t134),(Tryz.t135,Tryz.t135),(Tryz.t136,Tryz.t136),(Tryz.t137,Tryz.t137),(Tryz.t138,Tryz.t137),(Tryz.t139,Tryz.t139),(Tryz.t140,Tryz.t139),(Tryz.t141,Tryz.t141),(Tryz.t142,Tryz.t142),(Tryz.t143,Tryz.t143),(Tryz.t144,Tryz.t144),(Tryz.t145,Tryz.t144),(Tryz.t146,Tryz.t146),(Tryz.t147,Tryz.t147),(Tryz.t148,Tryz.t148),(Tryz.t149,Tryz.t149),(Tryz.t150,Tryz.t150),(Tryz.t151,Tryz.t151),(Tryz.t152,Tryz.t152),(Tryz.t153,Tryz.t153),(Tryz.t154,Tryz.t154),(Tryz.t155,Tryz.t155),(Tryz.t156,Tryz.t156),(Tryz.t157,Tryz.t157),(Tryz.t158,Tryz.t158),(Tryz.t159,Tryz.t159),(Tryz.t160,Tryz.t160),(Tryz.t161,Tryz.t160),(Tryz.t162,Tryz.t162),(Tryz.t163,Tryz.t163),(Tryz.t164,Tryz.t164),(Tryz.t165,Tryz.t165),(Tryz.t166,Tryz.t166),(Tryz.t167,Tryz.t167),(Tryz.t168,Tryz.t12),(Tryz.t169,Tryz.t169),(Tryz.t170,Tryz.t169),(Tryz.t171,Tryz.t171),(Tryz.t172,Tryz.t172),(Tryz.t173,Tryz.t5),(Tryz.t174,Tryz.t174),(Tryz.t175,Tryz.t175),(Tryz.t176,Tryz.t176),(Tryz.t177,Tryz.t177),(Tryz.t178,Tryz.t178),(Tryz.t179,Tryz.t179),(Tryz.t180,Tryz.t180),(Tryz.t181,Tryz.t181),(Tryz.t182,Tryz.t182),(Tryz.t183,Tryz.t183),(Tryz.t184,Tryz.t184),(Tryz.t185,Tryz.t185),(Tryz.t186,Tryz.t186),(Tryz.t187,Tryz.t186),(Tryz.t188,Tryz.t188),(Tryz.t189,Tryz.t189),(Tryz.t190,Tryz.t190),(Tryz.t191,Tryz.t191),(Tryz.t192,Tryz.t192),(Tryz.t193,Tryz.t193),(Tryz.t194,Tryz.t194),(Tryz.t195,Tryz.t195),(Tryz.t196,Tryz.t196),(Tryz.t197,Tryz.t197),(Tryz.t198,Tryz.t198),(Tryz.t199,Tryz.t199),(Tryz.t200,Tryz.t200),(Tryz.t201,Tryz.t201),(Tryz.t202,Tryz.t202),(Tryz.t203,Tryz.t203),(Tryz.t204,Tryz.t204),(Tryz.t205,Tryz.t205),(Tryz.t206,Tryz.t206),(Tryz.t207,Tryz.t207),(Tryz.t208,Tryz.t208),(Tryz.t209,Tryz.t209),(Tryz.t210,Tryz.t210),(Tryz.t211,Tryz.t210),(Tryz.t212,Tryz.t212),(Tryz.t213,Tryz.t213),(Tryz.t214,Tryz.t214),(Tryz.t215,Tryz.t215),(Tryz.t216,Tryz.t216),(Tryz.t217,Tryz.t217),(Tryz.t218,Tryz.t218),(Tryz.t219,Tryz.t219),(Tryz.t220,Tryz.t220),(Tryz.t221,Tryz.t221),(Tryz.t222,Tryz.t222),(Tryz.t223,Tryz.t223),(Tryz.t224,Tryz.t224),(Tryz.t225,Tryz.t225),(Tryz.t226,Tryz.t226),(Tryz.t227,Tryz.t227),(Tryz.t228,Tryz.t227),(Tryz.t229,Tryz.t229),(Tryz.t230,Tryz.t230),(Tryz.t231,Tryz.t231),(Tryz.t232,Tryz.t231),(Tryz.t233,Tryz.t233),(Tryz.t234,Tryz.t234),(Tryz.t235,Tryz.t235),(Tryz.t236,Tryz.t236),(Tryz.t237,Tryz.t237),(Tryz.t238,Tryz.t238),(Tryz.t239,Tryz.t239),(Tryz.t240,Tryz.t240),(Tryz.t241,Tryz.t241),(Tryz.t242,Tryz.t242),(Tryz.t243,Tryz.t243),(Tryz.t244,Tryz.t244),(Tryz.t245,Tryz.t245),(Tryz.t246,Tryz.t246),(Tryz.t247,Tryz.t247),(Tryz.t248,Tryz.t248),(Tryz.t249,Tryz.t249),(Tryz.t250,Tryz.t3),(Tryz.t251,Tryz.t251),(Tryz.t252,Tryz.t252),(Tryz.t253,Tryz.t253),(Tryz.t254,Tryz.t254),(Tryz.t255,Tryz.t255),(Tryz.t256,Tryz.t256),(Tryz.t257,Tryz.t257),(Tryz.t258,Tryz.t258),(Tryz.t259,Tryz.t259),(Tryz.t260,Tryz.t260),(Tryz.t261,Tryz.t261),(Tryz.t262,Tryz.t262),(Tryz.t263,Tryz.t263),(Tryz.t264,Tryz.t264),(Tryz.t265,Tryz.t265),(Tryz.t266,Tryz.t266),(Tryz.t267,Tryz.t267),(Tryz.t268,Tryz.t268),(Tryz.t269,Tryz.t269),(Tryz.t270,Tryz.t270),(Tryz.t271,Tryz.t271),(Tryz.t272,Tryz.t272),(Tryz.t273,Tryz.t272),(Tryz.t274,Tryz.t274),(Tryz.t275,Tryz.t275),(Tryz.t276,Tryz.t276),(Tryz.t277,Tryz.t277),(Tryz.t278,Tryz.t278),(Tryz.t279,Tryz.t34),(Tryz.t280,Tryz.t280),(Tryz.t281,Tryz.t281),(Tryz.t282,Tryz.t282),(Tryz.t283,Tryz.t283),(Tryz.t284,Tryz.t284),(Tryz.t285,Tryz.t285),(Tryz.t286,Tryz.t285),(Tryz.t287,Tryz.t287),(Tryz.t288,Tryz.t288),(Tryz.t289,Tryz.t289),(Tryz.t290,Tryz.t290),(Tryz.t291,Tryz.t291),(Tryz.t292,Tryz.t292),(Tryz.t293,Tryz.t293),(Tryz.t294,Tryz.t294),(Tryz.t295,Tryz.t295),(Tryz.t296,Tryz.t296),(Tryz.t297,Tryz.t297),(Tryz.t298,Tryz.t298),(Tryz.t299,Tryz.t298),(Tryz.t300,Tryz.t300),(Tryz.t301,Tryz.t301),(Tryz.t302,Tryz.t302),(Tryz.t303,Tryz.t303),(Tryz.t304,Tryz.t303),(Tryz.t305,Tryz.t305),(Tryz.t306,Tryz.t306),(Tryz.t307,Tryz.t307),(Tryz.t308,Tryz.t308),(Tryz.t309,Tryz.t309),(Tryz.t310,Tryz.t310),(Tryz.t311,Tryz.t311),(Tryz.t312,Tryz.t312),(Tryz.t313,Tryz.t313),(Tryz.t314,Tryz.t313),(Tryz.t315,Tryz.t315),(Tryz.t316,Tryz.t316),(Tryz.t317,Tryz.t316),(Tryz.t318,Tryz.t318),(Tryz.t319,Tryz.t5),(Tryz.t320,Tryz.t320),(Tryz.t321,Tryz.t321),(Tryz.t322,Tryz.t21),(Tryz.t323,Tryz.t21),(Tryz.t324,Tryz.t324),(Tryz.t325,Tryz.t324),(Tryz.t326,Tryz.t326),(Tryz.t327,Tryz.t327),(Tryz.t328,Tryz.t328),(Tryz.t329,Tryz.t328),(Tryz.t330,Tryz.t330),(Tryz.t331,Tryz.t331),(Tryz.t332,Tryz.t332),(Tryz.t333,Tryz.t333),(Tryz.t334,Tryz.t333),(Tryz.t335,Tryz.t335),(Tryz.t336,Tryz.t21),(Tryz.t337,Tryz.t337),(Tryz.t338,Tryz.t337),(Tryz.t339,Tryz.t339)]
noncomputable def tyT:T (TypeInfo × TypeInfo):=(.node (some (Tryz.t0,Tryz.t0)) (.node (some (Tryz.t1,Tryz.t1)) (.node (some (Tryz.t3,Tryz.t3)) (.node (some (Tryz.t7,Tryz.t7)) (.node (some (Tryz.t15,Tryz.t15)) (.node (some (Tryz.t31,Tryz.t31)) (.node (some (Tryz.t63,Tryz.t63)) (.node (some (Tryz.t127,Tryz.t127)) (.node (some (Tryz.t255,Tryz.t255)) .leaf .leaf) .leaf) (.node (some (Tryz.t191,Tryz.t191)) (.node (some (Tryz.t319,Tryz.t5)) .leaf .leaf) .leaf)) (.node (some (Tryz.t95,Tryz.t94)) (.node (some (Tryz.t159,Tryz.t159)) (.node (some (Tryz.t287,Tryz.t287)) .leaf .leaf) .leaf) (.node (some (Tryz.t223,Tryz.t223)) .leaf .leaf))) (.node (some (Tryz.t47,Tryz.t47)) (.node (some (Tryz.t79,Tryz.t79)) (.node (some (Tryz.t143,Tryz.t143)) (.node (some (Tryz.t271,Tryz.t271)) .leaf .leaf) .leaf) (.node (some (Tryz.t207,Tryz.t207)) (.node (some (Tryz.t335,Tryz.t335)) .leaf .leaf) .leaf)) (.node (some (Tryz.t111,Tryz.t111)) (.node (some (Tryz.t175,Tryz.t175)) (.node (some (Tryz.t303,Tryz.t303)) .leaf .leaf) .leaf) (.node (some (Tryz.t239,Tryz.t239)) .leaf .leaf)))) (.node (some (Tryz.t23,Tryz.t23)) (.node (some (Tryz.t39,Tryz.t39)) (.node (some (Tryz.t71,Tryz.t71)) (.node (some (Tryz.t135,Tryz.t135)) (.node (some (Tryz.t263,Tryz.t263)) .leaf .leaf) .leaf) (.node (some (Tryz.t199,Tryz.t199)) (.node (some (Tryz.t327,Tryz.t327)) .leaf .leaf) .leaf)) (.node (some (Tryz.t103,Tryz.t103)) (.node (some (Tryz.t167,Tryz.t167)) (.node (some (Tryz.t295,Tryz.t295)) .leaf .leaf) .leaf) (.node (some (Tryz.t231,Tryz.t231)) .leaf .leaf))) (.node (some (Tryz.t55,Tryz.t55)) (.node (some (Tryz.t87,Tryz.t87)) (.node (some (Tryz.t151,Tryz.t151)) (.node (some (Tryz.t279,Tryz.t34)) .leaf .leaf) .leaf) (.node (some (Tryz.t215,Tryz.t215)) .leaf .leaf)) (.node (some (Tryz.t119,Tryz.t119)) (.node (some (Tryz.t183,Tryz.t183)) (.node (some (Tryz.t311,Tryz.t311)) .leaf .leaf) .leaf) (.node (some (Tryz.t247,Tryz.t247)) .leaf .leaf))))) (.node (some (Tryz.t11,Tryz.t9)) (.node (some (Tryz.t19,Tryz.t18)) (.node (some (Tryz.t35,Tryz.t35)) (.node (some (Tryz.t67,Tryz.t67)) (.node (some (Tryz.t131,Tryz.t131)) (.node (some (Tryz.t259,Tryz.t259)) .leaf .leaf) .leaf) (.node (some (Tryz.t195,Tryz.t195)) (.node (some (Tryz.t323,Tryz.t21)) .leaf .leaf) .leaf)) (.node (some (Tryz.t99,Tryz.t99)) (.node (some (Tryz.t163,Tryz.t163)) (.node (some (Tryz.t291,Tryz.t291)) .leaf .leaf) .leaf) (.node (some (Tryz.t227,Tryz.t227)) .leaf .leaf))) (.node (some (Tryz.t51,Tryz.t51)) (.node (some (Tryz.t83,Tryz.t83)) (.node (some (Tryz.t147,Tryz.t147)) (.node (some (Tryz.t275,Tryz.t275)) .leaf .leaf) .leaf) (.node (some (Tryz.t211,Tryz.t210)) (.node (some (Tryz.t339,Tryz.t339)) .leaf .leaf) .leaf)) (.node (some (Tryz.t115,Tryz.t115)) (.node (some (Tryz.t179,Tryz.t179)) (.node (some (Tryz.t307,Tryz.t307)) .leaf .leaf) .leaf) (.node (some (Tryz.t243,Tryz.t243)) .leaf .leaf)))) (.node (some (Tryz.t27,Tryz.t27)) (.node (some (Tryz.t43,Tryz.t42)) (.node (some (Tryz.t75,Tryz.t75)) (.node (some (Tryz.t139,Tryz.t139)) (.node (some (Tryz.t267,Tryz.t267)) .leaf .leaf) .leaf) (.node (some (Tryz.t203,Tryz.t203)) (.node (some (Tryz.t331,Tryz.t331)) .leaf .leaf) .leaf)) (.node (some (Tryz.t107,Tryz.t107)) (.node (some (Tryz.t171,Tryz.t171)) (.node (some (Tryz.t299,Tryz.t298)) .leaf .leaf) .leaf) (.node (some (Tryz.t235,Tryz.t235)) .leaf .leaf))) (.node (some (Tryz.t59,Tryz.t58)) (.node (some (Tryz.t91,Tryz.t91)) (.node (some (Tryz.t155,Tryz.t155)) (.node (some (Tryz.t283,Tryz.t283)) .leaf .leaf) .leaf) (.node (some (Tryz.t219,Tryz.t219)) .leaf .leaf)) (.node (some (Tryz.t123,Tryz.t123)) (.node (some (Tryz.t187,Tryz.t186)) (.node (some (Tryz.t315,Tryz.t315)) .leaf .leaf) .leaf) (.node (some (Tryz.t251,Tryz.t251)) .leaf .leaf)))))) (.node (some (Tryz.t5,Tryz.t5)) (.node (some (Tryz.t9,Tryz.t9)) (.node (some (Tryz.t17,Tryz.t17)) (.node (some (Tryz.t33,Tryz.t33)) (.node (some (Tryz.t65,Tryz.t65)) (.node (some (Tryz.t129,Tryz.t128)) (.node (some (Tryz.t257,Tryz.t257)) .leaf .leaf) .leaf) (.node (some (Tryz.t193,Tryz.t193)) (.node (some (Tryz.t321,Tryz.t321)) .leaf .leaf) .leaf)) (.node (some (Tryz.t97,Tryz.t97)) (.node (some (Tryz.t161,Tryz.t160)) (.node (some (Tryz.t289,Tryz.t289)) .leaf .leaf) .leaf) (.node (some (Tryz.t225,Tryz.t225)) .leaf .leaf))) (.node (some (Tryz.t49,Tryz.t49)) (.node (some (Tryz.t81,Tryz.t81)) (.node (some (Tryz.t145,Tryz.t144)) (.node (some (Tryz.t273,Tryz.t272)) .leaf .leaf) .leaf) (.node (some (Tryz.t209,Tryz.t209)) (.node (some (Tryz.t337,Tryz.t337)) .leaf .leaf) .leaf)) (.node (some (Tryz.t113,Tryz.t112)) (.node (some (Tryz.t177,Tryz.t177)) (.node (some (Tryz.t305,Tryz.t305)) .leaf .leaf) .leaf) (.node (some (Tryz.t241,Tryz.t241)) .leaf .leaf)))) (.node (some (Tryz.t25,Tryz.t24)) (.node (some (Tryz.t41,Tryz.t41)) (.node (some (Tryz.t73,Tryz.t73)) (.node (some (Tryz.t137,Tryz.t137)) (.node (some (Tryz.t265,Tryz.t265)) .leaf .leaf) .leaf) (.node (some (Tryz.t201,Tryz.t201)) (.node (some (Tryz.t329,Tryz.t328)) .leaf .leaf) .leaf)) (.node (some (Tryz.t105,Tryz.t104)) (.node (some (Tryz.t169,Tryz.t169)) (.node (some (Tryz.t297,Tryz.t297)) .leaf .leaf) .leaf) (.node (some (Tryz.t233,Tryz.t233)) .leaf .leaf))) (.node (some (Tryz.t57,Tryz.t57)) (.node (some (Tryz.t89,Tryz.t89)) (.node (some (Tryz.t153,Tryz.t153)) (.node (some (Tryz.t281,Tryz.t281)) .leaf .leaf) .leaf) (.node (some (Tryz.t217,Tryz.t217)) .leaf .leaf)) (.node (some (Tryz.t121,Tryz.t121)) (.node (some (Tryz.t185,Tryz.t185)) (.node (some (Tryz.t313,Tryz.t313)) .leaf .leaf) .leaf) (.node (some (Tryz.t249,Tryz.t249)) .leaf .leaf))))) (.node (some (Tryz.t13,Tryz.t13)) (.node (some (Tryz.t21,Tryz.t21)) (.node (some (Tryz.t37,Tryz.t36)) (.node (some (Tryz.t69,Tryz.t69)) (.node (some (Tryz.t133,Tryz.t133)) (.node (some (Tryz.t261,Tryz.t261)) .leaf .leaf) .leaf) (.node (some (Tryz.t197,Tryz.t197)) (.node (some (Tryz.t325,Tryz.t324)) .leaf .leaf) .leaf)) (.node (some (Tryz.t101,Tryz.t101)) (.node (some (Tryz.t165,Tryz.t165)) (.node (some (Tryz.t293,Tryz.t293)) .leaf .leaf) .leaf) (.node (some (Tryz.t229,Tryz.t229)) .leaf .leaf))) (.node (some (Tryz.t53,Tryz.t53)) (.node (some (Tryz.t85,Tryz.t85)) (.node (some (Tryz.t149,Tryz.t149)) (.node (some (Tryz.t277,Tryz.t277)) .leaf .leaf) .leaf) (.node (some (Tryz.t213,Tryz.t213)) .leaf .leaf)) (.node (some (Tryz.t117,Tryz.t117)) (.node (some (Tryz.t181,Tryz.t181)) (.node (some (Tryz.t309,Tryz.t309)) .leaf .leaf) .leaf) (.node (some (Tryz.t245,Tryz.t245)) .leaf .leaf)))) (.node (some (Tryz.t29,Tryz.t29)) (.node (some (Tryz.t45,Tryz.t45)) (.node (some (Tryz.t77,Tryz.t77)) (.node (some (Tryz.t141,Tryz.t141)) (.node (some (Tryz.t269,Tryz.t269)) .leaf .leaf) .leaf) (.node (some (Tryz.t205,Tryz.t205)) (.node (some (Tryz.t333,Tryz.t333)) .leaf .leaf) .leaf)) (.node (some (Tryz.t109,Tryz.t109)) (.node (some (Tryz.t173,Tryz.t5)) (.node (some (Tryz.t301,Tryz.t301)) .leaf .leaf) .leaf) (.node (some (Tryz.t237,Tryz.t237)) .leaf .leaf))) (.node (some (Tryz.t61,Tryz.t61)) (.node (some (Tryz.t93,Tryz.t92)) (.node (some (Tryz.t157,Tryz.t157)) (.node (some (Tryz.t285,Tryz.t285)) .leaf .leaf) .leaf) (.node (some (Tryz.t221,Tryz.t221)) .leaf .leaf)) (.node (some (Tryz.t125,Tryz.t125)) (.node (some (Tryz.t189,Tryz.t189)) (.node (some (Tryz.t317,Tryz.t316)) .leaf .leaf) .leaf) (.node (some (Tryz.t253,Tryz.t253)) .leaf .leaf))))))) (.node (some (Tryz.t2,Tryz.t2)) (.node (some (Tryz.t4,Tryz.t4)) (.node (some (Tryz.t8,Tryz.t7)) (.node (some (Tryz.t16,Tryz.t16)) (.node (some (Tryz.t32,Tryz.t32)) (.node (some (Tryz.t64,Tryz.t64)) (.node (some (Tryz.t128,Tryz.t128)) (.node (some (Tryz.t256,Tryz.t256)) .leaf .leaf) .leaf) (.node (some (Tryz.t192,Tryz.t192)) (.node (some (Tryz.t320,Tryz.t320)) .leaf .leaf) .leaf)) (.node (some (Tryz.t96,Tryz.t96)) (.node (some (Tryz.t160,Tryz.t160)) (.node (some (Tryz.t288,Tryz.t288)) .leaf .leaf) .leaf) (.node (some (Tryz.t224,Tryz.t224)) .leaf .leaf))) (.node (some (Tryz.t48,Tryz.t48)) (.node (some (Tryz.t80,Tryz.t3)) (.node (some (Tryz.t144,Tryz.t144)) (.node (some (Tryz.t272,Tryz.t272)) .leaf .leaf) .leaf) (.node (some (Tryz.t208,Tryz.t208)) (.node (some (Tryz.t336,Tryz.t21)) .leaf .leaf) .leaf)) (.node (some (Tryz.t112,Tryz.t112)) (.node (some (Tryz.t176,Tryz.t176)) (.node (some (Tryz.t304,Tryz.t303)) .leaf .leaf) .leaf) (.node (some (Tryz.t240,Tryz.t240)) .leaf .leaf)))) (.node (some (Tryz.t24,Tryz.t24)) (.node (some (Tryz.t40,Tryz.t40)) (.node (some (Tryz.t72,Tryz.t72)) (.node (some (Tryz.t136,Tryz.t136)) (.node (some (Tryz.t264,Tryz.t264)) .leaf .leaf) .leaf) (.node (some (Tryz.t200,Tryz.t200)) (.node (some (Tryz.t328,Tryz.t328)) .leaf .leaf) .leaf)) (.node (some (Tryz.t104,Tryz.t104)) (.node (some (Tryz.t168,Tryz.t12)) (.node (some (Tryz.t296,Tryz.t296)) .leaf .leaf) .leaf) (.node (some (Tryz.t232,Tryz.t231)) .leaf .leaf))) (.node (some (Tryz.t56,Tryz.t56)) (.node (some (Tryz.t88,Tryz.t88)) (.node (some (Tryz.t152,Tryz.t152)) (.node (some (Tryz.t280,Tryz.t280)) .leaf .leaf) .leaf) (.node (some (Tryz.t216,Tryz.t216)) .leaf .leaf)) (.node (some (Tryz.t120,Tryz.t120)) (.node (some (Tryz.t184,Tryz.t184)) (.node (some (Tryz.t312,Tryz.t312)) .leaf .leaf) .leaf) (.node (some (Tryz.t248,Tryz.t248)) .leaf .leaf))))) (.node (some (Tryz.t12,Tryz.t12)) (.node (some (Tryz.t20,Tryz.t20)) (.node (some (Tryz.t36,Tryz.t36)) (.node (some (Tryz.t68,Tryz.t68)) (.node (some (Tryz.t132,Tryz.t132)) (.node (some (Tryz.t260,Tryz.t260)) .leaf .leaf) .leaf) (.node (some (Tryz.t196,Tryz.t196)) (.node (some (Tryz.t324,Tryz.t324)) .leaf .leaf) .leaf)) (.node (some (Tryz.t100,Tryz.t99)) (.node (some (Tryz.t164,Tryz.t164)) (.node (some (Tryz.t292,Tryz.t292)) .leaf .leaf) .leaf) (.node (some (Tryz.t228,Tryz.t227)) .leaf .leaf))) (.node (some (Tryz.t52,Tryz.t51)) (.node (some (Tryz.t84,Tryz.t84)) (.node (some (Tryz.t148,Tryz.t148)) (.node (some (Tryz.t276,Tryz.t276)) .leaf .leaf) .leaf) (.node (some (Tryz.t212,Tryz.t212)) .leaf .leaf)) (.node (some (Tryz.t116,Tryz.t116)) (.node (some (Tryz.t180,Tryz.t180)) (.node (some (Tryz.t308,Tryz.t308)) .leaf .leaf) .leaf) (.node (some (Tryz.t244,Tryz.t244)) .leaf .leaf)))) (.node (some (Tryz.t28,Tryz.t28)) (.node (some (Tryz.t44,Tryz.t44)) (.node (some (Tryz.t76,Tryz.t76)) (.node (some (Tryz.t140,Tryz.t139)) (.node (some (Tryz.t268,Tryz.t268)) .leaf .leaf) .leaf) (.node (some (Tryz.t204,Tryz.t204)) (.node (some (Tryz.t332,Tryz.t332)) .leaf .leaf) .leaf)) (.node (some (Tryz.t108,Tryz.t108)) (.node (some (Tryz.t172,Tryz.t172)) (.node (some (Tryz.t300,Tryz.t300)) .leaf .leaf) .leaf) (.node (some (Tryz.t236,Tryz.t236)) .leaf .leaf))) (.node (some (Tryz.t60,Tryz.t60)) (.node (some (Tryz.t92,Tryz.t92)) (.node (some (Tryz.t156,Tryz.t156)) (.node (some (Tryz.t284,Tryz.t284)) .leaf .leaf) .leaf) (.node (some (Tryz.t220,Tryz.t220)) .leaf .leaf)) (.node (some (Tryz.t124,Tryz.t123)) (.node (some (Tryz.t188,Tryz.t188)) (.node (some (Tryz.t316,Tryz.t316)) .leaf .leaf) .leaf) (.node (some (Tryz.t252,Tryz.t252)) .leaf .leaf)))))) (.node (some (Tryz.t6,Tryz.t5)) (.node (some (Tryz.t10,Tryz.t9)) (.node (some (Tryz.t18,Tryz.t18)) (.node (some (Tryz.t34,Tryz.t34)) (.node (some (Tryz.t66,Tryz.t65)) (.node (some (Tryz.t130,Tryz.t130)) (.node (some (Tryz.t258,Tryz.t258)) .leaf .leaf) .leaf) (.node (some (Tryz.t194,Tryz.t194)) (.node (some (Tryz.t322,Tryz.t21)) .leaf .leaf) .leaf)) (.node (some (Tryz.t98,Tryz.t98)) (.node (some (Tryz.t162,Tryz.t162)) (.node (some (Tryz.t290,Tryz.t290)) .leaf .leaf) .leaf) (.node (some (Tryz.t226,Tryz.t226)) .leaf .leaf))) (.node (some (Tryz.t50,Tryz.t50)) (.node (some (Tryz.t82,Tryz.t82)) (.node (some (Tryz.t146,Tryz.t146)) (.node (some (Tryz.t274,Tryz.t274)) .leaf .leaf) .leaf) (.node (some (Tryz.t210,Tryz.t210)) (.node (some (Tryz.t338,Tryz.t337)) .leaf .leaf) .leaf)) (.node (some (Tryz.t114,Tryz.t114)) (.node (some (Tryz.t178,Tryz.t178)) (.node (some (Tryz.t306,Tryz.t306)) .leaf .leaf) .leaf) (.node (some (Tryz.t242,Tryz.t242)) .leaf .leaf)))) (.node (some (Tryz.t26,Tryz.t26)) (.node (some (Tryz.t42,Tryz.t42)) (.node (some (Tryz.t74,Tryz.t74)) (.node (some (Tryz.t138,Tryz.t137)) (.node (some (Tryz.t266,Tryz.t266)) .leaf .leaf) .leaf) (.node (some (Tryz.t202,Tryz.t202)) (.node (some (Tryz.t330,Tryz.t330)) .leaf .leaf) .leaf)) (.node (some (Tryz.t106,Tryz.t106)) (.node (some (Tryz.t170,Tryz.t169)) (.node (some (Tryz.t298,Tryz.t298)) .leaf .leaf) .leaf) (.node (some (Tryz.t234,Tryz.t234)) .leaf .leaf))) (.node (some (Tryz.t58,Tryz.t58)) (.node (some (Tryz.t90,Tryz.t90)) (.node (some (Tryz.t154,Tryz.t154)) (.node (some (Tryz.t282,Tryz.t282)) .leaf .leaf) .leaf) (.node (some (Tryz.t218,Tryz.t218)) .leaf .leaf)) (.node (some (Tryz.t122,Tryz.t122)) (.node (some (Tryz.t186,Tryz.t186)) (.node (some (Tryz.t314,Tryz.t313)) .leaf .leaf) .leaf) (.node (some (Tryz.t250,Tryz.t3)) .leaf .leaf))))) (.node (some (Tryz.t14,Tryz.t13)) (.node (some (Tryz.t22,Tryz.t22)) (.node (some (Tryz.t38,Tryz.t38)) (.node (some (Tryz.t70,Tryz.t70)) (.node (some (Tryz.t134,Tryz.t134)) (.node (some (Tryz.t262,Tryz.t262)) .leaf .leaf) .leaf) (.node (some (Tryz.t198,Tryz.t198)) (.node (some (Tryz.t326,Tryz.t326)) .leaf .leaf) .leaf)) (.node (some (Tryz.t102,Tryz.t102)) (.node (some (Tryz.t166,Tryz.t166)) (.node (some (Tryz.t294,Tryz.t294)) .leaf .leaf) .leaf) (.node (some (Tryz.t230,Tryz.t230)) .leaf .leaf))) (.node (some (Tryz.t54,Tryz.t54)) (.node (some (Tryz.t86,Tryz.t86)) (.node (some (Tryz.t150,Tryz.t150)) (.node (some (Tryz.t278,Tryz.t278)) .leaf .leaf) .leaf) (.node (some (Tryz.t214,Tryz.t214)) .leaf .leaf)) (.node (some (Tryz.t118,Tryz.t118)) (.node (some (Tryz.t182,Tryz.t182)) (.node (some (Tryz.t310,Tryz.t310)) .leaf .leaf) .leaf) (.node (some (Tryz.t246,Tryz.t246)) .leaf .leaf)))) (.node (some (Tryz.t30,Tryz.t30)) (.node (some (Tryz.t46,Tryz.t46)) (.node (some (Tryz.t78,Tryz.t78)) (.node (some (Tryz.t142,Tryz.t142)) (.node (some (Tryz.t270,Tryz.t270)) .leaf .leaf) .leaf) (.node (some (Tryz.t206,Tryz.t206)) (.node (some (Tryz.t334,Tryz.t333)) .leaf .leaf) .leaf)) (.node (some (Tryz.t110,Tryz.t110)) (.node (some (Tryz.t174,Tryz.t174)) (.node (some (Tryz.t302,Tryz.t302)) .leaf .leaf) .leaf) (.node (some (Tryz.t238,Tryz.t238)) .leaf .leaf))) (.node (some (Tryz.t62,Tryz.t62)) (.node (some (Tryz.t94,Tryz.t94)) (.node (some (Tryz.t158,Tryz.t158)) (.node (some (Tryz.t286,Tryz.t285)) .leaf .leaf) .leaf) (.node (some (Tryz.t222,Tryz.t222)) .leaf .leaf)) (.node (some (Tryz.t126,Tryz.t126)) (.node (some (Tryz.t190,Tryz.t190)) (.node (some (Tryz.t318,Tryz.t318)) .leaf .leaf) .leaf) (.node (some (Tryz.t254,Tryz.t254)) .leaf .leaf))))))))
def ivT (g:Nat):Option (Array Value):=cond (Nat.beq g 1) (some (Lib.pow10Tab.map fun z=>Value.int .u64 z).toArray) none
noncomputable def CT (sp:FuncId->Option (List Value->AS->Option (Value × AS))) (glob:Nat->Option Value) (meth:TypeId->String->Value->Option (FuncId × Value)) (fs:List Fact) (ls:List (TypeId × Nat × Nat)) (cnv:TypeId->TypeId->Value->Option Value) (rd:Nat->Bool):Ctx:=⟨Tryz.prog,fun f=>fnT.get f,fun t=>(tyT.get t).map (·.1),fun t=>(tyT.get t).map (·.2.desc),sp,glob,meth,fun op _ x y=>binOf fs op x y,fun t x=>lenOf ls t x,cnv,rd,ivT⟩
theorem ctOK {ω:Nat->Value} (sp:FuncId->Option (List Value->AS->Option (Value × AS))) (glob:Nat->Option Value) {meth:TypeId->String->Value->Option (FuncId × Value)} (hm:∀ t name v g rv,meth t name v=some (g,rv)->∀ (m:M ω) (v':Value),VRel m v v'->∃ rv',VRel m rv rv'/\∀ w,(method (Tryz.prog.types.size+Made.depth) t v' name).run Tryz.prog w=.ok (g,rv') w) {fs:List Fact} (hf:∀ f∈fs,f.ok ω Tryz.prog) {ls:List (TypeId × Nat × Nat)} (hl:∀ f∈ls,LenOK ω Tryz.prog f) {cnv:TypeId->TypeId->Value->Option Value} (hc:∀ src dst x v,cnv src dst x=some v->∀ (m:M ω) (x':Value) (w:World),VRel m x x'->∃ v',(convert src dst x').run Tryz.prog w=.ok v' w/\VRel m v v') (rd:Nat->Bool):CtxOK ω (CT sp glob meth fs ls cnv rd) :=
 ctxOK_of (tyL:=tyL) (by kernel_rfl) (by kernel_rfl) (by kernel_rfl) (by kernel_rfl) (by kernel_rfl) (by kernel_rfl) (by kernel_rfl) (binOf_ok hf) (lenOf_ok hl) hm hc
def noCnv (_ _:TypeId) (_:Value):Option Value:=none
theorem noCnv_ok {ω:Nat->Value}:∀ src dst x v,noCnv src dst x=some v->∀ (m:M ω) (x':Value) (w:World),VRel m x x'->∃ v',(convert src dst x').run Tryz.prog w=.ok v' w/\VRel m v v':=fun _ _ _ _ h=>by cases h
theorem mixed:Tryz.prog.follows .mixedOrders=true:=by kernel_rfl
end Go.Proofs.YtenfkghoolegfaaGreatDoor.Ev
namespace Go.Proofs.YtenfkghoolegfaaGreatDoor.Ev
open Go.RowKit Go.Extern
variable {ω:Nat->Value}
def hBase:Nat:=1000
def hTok (t:TypeId):Value:=.chan (some (hBase+t))
def tyOf:Value->Option TypeId
 | .chan (some k)=>cond (Nat.ble hBase k) (some (k-hBase)) none
 | _=>none
def rtV (t:TypeId):Value:=.iface 187 (.agg #[hTok t])
def kindOf (t:TypeId):Option Nat :=
 cond (Nat.beq t 136 || (Nat.beq t 150 || Nat.beq t 134)) (some 22) (cond (Nat.beq t 80) (some 2) none)
def elemOf' (t:TypeId):Option TypeId :=
 cond (Nat.beq t 136) (some 134) (cond (Nat.beq t 150) (some 80) none)
def isErrT (t:TypeId):Bool:=Nat.beq t 134 || Nat.beq t 80
abbrev SpF:=List Value->AS->Option (Value × AS)
def spTypeOf:SpF
 | [.iface u _],s=>some (rtV u,s)
 | _,_=>none
noncomputable def spValueOf:SpF
 | [.iface u v],s=>match kindOf u with
  | some k=>cond (oneV v) (some (.agg #[hTok u,.pointer (some ⟨s.n,0,none⟩),.int .u64 ((k+128:Nat):Int)],⟨s.n+1,s.h.put s.n (blkOf [v] u 0 false false)⟩)) none
  | none=>none
 | _,_=>none
def spType:SpF
 | [.agg cs],s=>match cs.toList with
  | [h,.pointer (some _),.int .u64 150]=>match tyOf h with
   | some u=>some (rtV u,s)
   | none=>none
  | _=>none
 | _,_=>none
noncomputable def spIsNil:SpF
 | [.agg cs],s=>match cs.toList with
  | [h,.pointer (some p),.int .u64 150]=>match tyOf h with
   | some u=>match elemOf' u,readN s p 1 with
    | some _,some [.pointer q]=>some (.bool q.isNone,s)
    | _,_=>none
   | none=>none
  | _=>none
 | _,_=>none
noncomputable def spVElem:SpF
 | [.agg cs],s=>match cs.toList with
  | [h,.pointer (some p),.int .u64 150]=>match tyOf h with
   | some u=>match elemOf' u,readN s p 1 with
    | some e,some [.pointer (some q)]=>match kindOf e with
     | some k=>some (.agg #[hTok e,.pointer (some q),.int .u64 ((k+384:Nat):Int)],s)
     | none=>none
    | _,_=>none
   | none=>none
  | _=>none
 | _,_=>none
def spKind:SpF
 | [h],s=>match tyOf h with
  | some u=>match kindOf u with
   | some k=>some (.int .u8 ((k:Nat):Int),s)
   | none=>none
  | none=>none
 | _,_=>none
def spRtElem:SpF
 | [.agg cs],s=>match cs.toList with
  | [h]=>match tyOf h with
   | some u=>match elemOf' u with
    | some e=>some (rtV e,s)
    | none=>none
   | none=>none
  | _=>none
 | _,_=>none
def spImplements:SpF
 | [.agg cs,.iface _ (.agg ds)],s=>match cs.toList,ds.toList with
  | [h],[i]=>match tyOf h,tyOf i with
   | some u,some v=>cond (isErrT u && Nat.beq v 37) (some (.bool true,s)) none
   | _,_=>none
  | _,_=>none
 | _,_=>none
def spAssign:SpF
 | [.agg cs,.iface _ (.agg ds)],s=>match cs.toList,ds.toList with
  | [h],[i]=>match tyOf h,tyOf i with
   | some u,some v=>cond (isErrT u && isErrT v) (some (.bool (Nat.beq u v),s)) none
   | _,_=>none
  | _,_=>none
 | _,_=>none
def spComparable:SpF
 | [.agg cs],s=>match cs.toList with
  | [h]=>match tyOf h with
   | some u=>cond (isErrT u) (some (.bool true,s)) none
   | none=>none
  | _=>none
 | _,_=>none
noncomputable def spSet:SpF
 | [.agg cs,.agg ds],s=>match cs.toList,ds.toList with
  | [h,.pointer (some p),.int .u64 f],[i,.pointer (some q),.int .u64 g]=>match tyOf h,tyOf i with
   | some u,some v=>match kindOf u,readN s q 1 with
    | some k,some [x]=>cond (isErrT u && (Nat.beq u v && (eqI f ((k+384:Nat):Int) && (eqI g ((k+128:Nat):Int) && oneV x)))) (match writeL s p [x] with
     | some s'=>some (.tuple #[],s')
     | none=>none) none
    | _,_=>none
   | _,_=>none
  | _,_=>none
 | _,_=>none
noncomputable def spL:List (FuncId × SpF):=[(76,spTypeOf),(93,spValueOf),(94,spType),(95,spIsNil),(126,spVElem),(127,spSet),(240,spKind),(253,spRtElem),(254,spImplements),(251,spAssign),(252,spComparable)]
def spFind:List (FuncId × SpF)->FuncId->Option SpF
 | [],_=>none
 | (i,k)::r,g=>cond (Nat.beq i g) (some k) (spFind r g)
theorem spFind_ok {Q:FuncId->SpF->Prop}:∀ {l:List (FuncId × SpF)},(∀ p∈l,Q p.1 p.2)->∀ g k,spFind l g=some k->Q g k
 | [],_,g,k,h=>by cases h
 | (i,f)::r,hq,g,k,h=>by
  simp only [spFind] at h
  cases hb:Nat.beq i g with
  | true =>
   rw [hb] at h
   cases h
   rw [<-bE hb];exact hq (i,f) (by simp)
  | false=>rw [hb] at h;exact spFind_ok (fun p hp=>hq p (by simp [hp])) g k h
def Hands (ω:Nat->Value):Prop:=∀ t,ω (hBase+t)=.pointer (some ⟨5,t,none⟩)
theorem ext_ok {C:Ctx} (hP:C.P=Tryz.prog) {g:FuncId} {fn:Func} (e:Array Value->Sem Value) (hf:Tryz.prog.funcs[g]?=some fn) (hname:(fn.name == "runtime.NumGoroutine")=false) (hb:fn.body.isNone=true) (hn:Extern.findNext fn=none) (he:Extern.find fn=some e)
 {args:Array Value} {w:World} {R:Value->World->Prop} (h:∃ v' w',(e args).run Tryz.prog w=.ok v' w'/\R v' w'):CallOK C g args w R:=by
 intro q F n o act K Q hF hK;obtain ⟨v',w',hr,hR⟩:=h;rw [hP,run_callFunc_extern hf hname hb hn he,hr];exact hK v' w' hR
section
variable {B:Nat} {X:Aux} {m:M ω} {s s':AS} {w:World}
theorem RelV.same {v v':Value} (hs:SR B X m s w) (hv:VRel m v v'):RelV B X m s w v v' w:=⟨m,Le.refl _,hs,hv,bR _ _⟩
theorem hand_inv (hh:Hands ω) {h v':Value} {u:TypeId} (ht:tyOf h=some u) (hv:VRel m h v'):v'=.pointer (some ⟨5,u,none⟩):=by
 have key:∀ k,h=.chan (some k)->v'=.pointer (some ⟨5,u,none⟩):=by
  intro k hk;subst hk;have ht':cond (Nat.ble hBase k) (some (k-hBase)) none=some u:=ht
  cases hb:Nat.ble hBase k with
  | false=>rw [hb] at ht';cases ht'
  | true =>
   rw [hb] at ht';have hu:k-hBase=u:=Option.some.inj ht';have hle:=Nat.le_of_ble_eq_true hb;have e:=hh u
   have ek:hBase+u=k:=by rw [<-hu];exact Nat.add_sub_cancel' hle
   rw [ek] at e;exact (tok_inv hv).trans e
 cases h with
 | chan c =>
  cases c with
  | none=>cases ht
  | some k=>exact key k rfl
 | _=>cases ht
theorem hand_rel (hh:Hands ω) (u:TypeId):VRel m (hTok u) (.pointer (some ⟨5,u,none⟩)):=by
 have:=VRel.tok (m:=m) (hBase+u) (by rw [hh];rfl)
 rwa [hh] at this
theorem rt_rel (hh:Hands ω) (u:TypeId):VRel m (rtV u) (.iface 187 (.agg #[.pointer (some ⟨5,u,none⟩)])) :=
 .iface _ _ _ (LRel.agg (l:=[hTok u]) (l':=[_]) (LRel.cons (hand_rel hh u) (LRel.nil m)))
theorem agg_list {cs:Array Value} {l:List Value} (hl:cs.toList=l) {v':Value} (h:VRel m (.agg cs) v'):∃ l',v'=.agg l'.toArray/\LRel m l l':=by
 obtain ⟨cs',rfl,hr⟩:=agg_inv h;exact ⟨cs'.toList,by simp,by rw [<-hl];exact hr⟩
theorem l1 {a:Value} {l:List Value} (h:LRel m [a] l):∃ a',l=[a']/\VRel m a a':=by
 match l,h with
 | [a'],h=>exact ⟨a',rfl,h.tail.1⟩
 | [],h=>exact absurd h.1 (by simp)
 | _::_::_,h=>exact absurd h.1 (by simp)
theorem l3 {a b c:Value} {l:List Value} (h:LRel m [a,b,c] l):∃ a' b' c',l=[a',b',c']/\VRel m a a'/\VRel m b b'/\VRel m c c':=by
 match l,h with
 | [a',b',c'],h=>exact ⟨a',b',c',rfl,h.tail.1,h.tail.2.tail.1,h.tail.2.tail.2.tail.1⟩
 | [],h=>exact absurd h.1 (by simp)
 | [_],h=>exact absurd h.1 (by simp)
 | [_,_],h=>exact absurd h.1 (by simp)
 | _::_::_::_::_,h=>exact absurd h.1 (by simp)
theorem kindOf_run {u:TypeId} {k:Nat} (h:kindOf u=some k) (w:World):(Rtype.kind u).run Tryz.prog w=.ok k w:=by
 unfold kindOf at h
 cases h1:Nat.beq u 136 with
 | true=>rw [h1] at h;cases h;obtain rfl:=bE h1;kernel_rfl
 | false =>
  cases h2:Nat.beq u 150 with
  | true=>rw [h1,h2] at h;cases h;obtain rfl:=bE h2;kernel_rfl
  | false =>
   cases h3:Nat.beq u 134 with
   | true=>rw [h1,h2,h3] at h;cases h;obtain rfl:=bE h3;kernel_rfl
   | false =>
    rw [h1,h2,h3] at h
    cases h4:Nat.beq u 80 with
    | true=>rw [h4] at h;cases h;obtain rfl:=bE h4;kernel_rfl
    | false=>rw [h4] at h;cases h
theorem typeOf_run (u:TypeId) (v:Value) (w:World):(ReflectliteType.typeOf #[.iface u v]).run Tryz.prog w=.ok (.iface 187 (.agg #[.pointer (some ⟨5,u,none⟩)])) w:=by kernel_rfl
theorem pack_no (t:String) (u:TypeId) (hu:Tryz.prog.packed u=false) (w:World):(Rtype.noPack t u).run Tryz.prog w=.ok () w:=by
 simp [Rtype.noPack,run_program,hu]
theorem packed_no {u:TypeId} {k:Nat} (h:kindOf u=some k):Tryz.prog.packed u=false:=by
 unfold kindOf at h
 cases h1:Nat.beq u 136 with
 | true=>obtain rfl:=bE h1;kernel_rfl
 | false =>
  cases h2:Nat.beq u 150 with
  | true=>obtain rfl:=bE h2;kernel_rfl
  | false =>
   cases h3:Nat.beq u 134 with
   | true=>obtain rfl:=bE h3;kernel_rfl
   | false =>
    rw [h1,h2,h3] at h
    cases h4:Nat.beq u 80 with
    | true=>obtain rfl:=bE h4;kernel_rfl
    | false=>rw [h4] at h;cases h
theorem ofHandle_run (u:TypeId) (w:World):(Rtype.ofHandle (.pointer (some ⟨5,u,none⟩))).run Tryz.prog w=.ok u w:=by kernel_rfl
theorem handle_run (u:TypeId) (w:World):(Rtype.handle u).run Tryz.prog w=.ok (.pointer (some ⟨5,u,none⟩)) w:=by kernel_rfl
theorem elem_of {u e:TypeId} (h:elemOf' u=some e):(u=136/\e=134)\/(u=150/\e=80):=by
 unfold elemOf' at h
 cases h1:Nat.beq u 136 with
 | true=>rw [h1] at h;cases h;exact .inl ⟨bE h1,rfl⟩
 | false =>
  rw [h1] at h
  cases h2:Nat.beq u 150 with
  | true=>rw [h2] at h;cases h;exact .inr ⟨bE h2,rfl⟩
  | false=>rw [h2] at h;cases h
theorem err_of {u:TypeId} (h:isErrT u=true):u=134\/u=80:=by
 unfold isErrT at h;rw [Bool.or_eq_true] at h;exact h.imp bE bE
theorem typeOf_ok (hh:Hands ω) {vs:List Value} {v:Value} {args:Array Value} (hs:SR B X m s w) (hl:LRel m vs args.toList) (h:spTypeOf vs s=some (v,s')) :
 ∃ v' w',(ReflectliteType.typeOf args).run Tryz.prog w=.ok v' w'/\RelV B X m s' w v v' w':=by
 unfold spTypeOf at h
 split at h
 ·rename_i u x
  cases h
  obtain ⟨x',rfl,hx⟩:=args1 hl;obtain ⟨y,_,rfl⟩:=iface_inv hx;exact ⟨_,w,typeOf_run u y w,RelV.same hs (rt_rel hh u)⟩
 ·cases h
theorem valueOf_ok (hh:Hands ω) (hB:B<=w.heap.size) {vs:List Value} {v:Value} {args:Array Value} (hs:SR B X m s w) (hl:LRel m vs args.toList) (h:spValueOf vs s=some (v,s')) :
 ∃ v' w',(ReflectliteValue.unpack (args.getD 0 (.tuple #[]))).run Tryz.prog w=.ok v' w'/\RelV B X m s' w v v' w':=by
 unfold spValueOf at h
 split at h
 ·rename_i u x
  split at h
  ·rename_i k hk
   cases ho:oneV x with
   | false=>rw [ho] at h;cases h
   | true =>
    rw [ho] at h
    cases h
    obtain ⟨x',rfl,hx⟩:=args1 hl;obtain ⟨y,hy,rfl⟩:=iface_inv hx;have hcy:cellsOf y=[y]:=cellsOf_one (by have:=one_rel hy ho;revert this;cases y <;> simp [Value.oneCell',oneV])
    have hrun:(ReflectliteValue.unpack (.iface u y)).run Tryz.prog w=.ok (.agg #[.pointer (some ⟨5,u,none⟩),.pointer (some ⟨w.heap.size,0,none⟩),.int .u64 ((k+128:Nat):Int)]) (w.alloc (.cells [y].toArray u)):=by
     simp only [ReflectliteValue.unpack,ReflectliteValue.mk,Sem.run_bind,newVar,newRow,run_newObj_alloc,Result.andThen,handle_run,kindOf_run hk,Sem.run_pure,cells_arr,hcy];rfl
    obtain ⟨h1,h2⟩:=new_sound (w1:=w.alloc (.cells [y].toArray u)) hs (blkOf [x] u 0 false false) _ hB rfl (by simp) (fun q hq=>Below.heap_alloc w _ q hq) (blk_new (LRel.cons hy (LRel.nil m)) u 0);refine ⟨_,_,hrun,_,h2,h1,?_,(bR _ _).alloc hB _⟩;exact LRel.agg (l:=[_,_,_]) (l':=[_,_,_]) (LRel.cons (hand_rel hh u) (LRel.cons (.ptr _ _ ⟨rfl,_,ext_same _ _ _,rfl⟩) (LRel.cons (.plain _ rfl) (LRel.nil _))))
  ·cases h
 ·cases h
theorem type_ok (hh:Hands ω) {vs:List Value} {v:Value} {args:Array Value} (hs:SR B X m s w) (hl:LRel m vs args.toList) (h:spType vs s=some (v,s')) :
 ∃ v' w',(ReflectliteValue.methodAny (ReflectliteValue.valueError "reflectlite.Value.Type" 0) (fun t _ _ _=>ReflectliteType.toType t) args).run Tryz.prog w=.ok v' w'/\RelV B X m s' w v v' w':=by
 unfold spType at h
 split at h
 ·rename_i cs
  split at h
  ·rename_i hd p hcs
   split at h
   ·rename_i u hu
    cases h
    obtain ⟨x',rfl,hx⟩:=args1 hl;obtain ⟨l',rfl,hr⟩:=agg_list hcs hx;obtain ⟨a',b',c',rfl,h1,h2,h3⟩:=l3 hr;obtain rfl:=hand_inv hh hu h1;obtain ⟨p',_,rfl⟩:=ptr_inv h2;obtain rfl:=int_inv h3;refine ⟨_,w,?_,RelV.same hs (rt_rel hh u)⟩;kernel_rfl
   ·cases h
  ·cases h
 ·cases h
theorem isNil_ok (hh:Hands ω) {vs:List Value} {v:Value} {args:Array Value} (hs:SR B X m s w) (hl:LRel m vs args.toList) (h:spIsNil vs s=some (v,s')) :
 ∃ v' w',(ReflectliteValue.method (ReflectliteValue.valueError "reflectlite.Value.IsNil" 0) ReflectliteValue.isNil args).run Tryz.prog w=.ok v' w'/\RelV B X m s' w v v' w':=by
 unfold spIsNil at h
 split at h
 ·rename_i cs
  split at h
  ·rename_i hd p hcs
   split at h
   ·rename_i u hu
    split at h
    ·rename_i e q he hr0
     cases h
     obtain ⟨x',rfl,hx⟩:=args1 hl;obtain ⟨l',rfl,hr⟩:=agg_list hcs hx;obtain ⟨a',b',c',rfl,h1,h2,h3⟩:=l3 hr;obtain rfl:=hand_inv hh hu h1;obtain ⟨p',hp',rfl⟩:=ptr_inv h2;obtain rfl:=int_inv h3;obtain ⟨l2,g1,g2,g3⟩:=readN_sound hs hr0 hp';obtain ⟨z,rfl,hz⟩:=l1 g1;have hcell:=g3 0 z rfl;rw [show p'.add 0=p' by simp [Addr.add]] at hcell;refine ⟨.bool q.isNone,w,?_,RelV.same hs (.plain _ rfl)⟩
     have hpt:(∃ q',z=.pointer (some q')/\q.isNone=false)\/(z=.pointer none/\q.isNone=true):=by
      cases q with
      | none=>exact .inr ⟨nilptr_inv hz,rfl⟩
      | some q=>obtain ⟨q',_,rfl⟩:=ptr_inv hz;exact .inl ⟨q',rfl,rfl⟩
     rcases elem_of he with ⟨rfl,rfl⟩ | ⟨rfl,rfl⟩
     ·have hparts:(ReflectliteValue.parts (.agg #[.pointer (some ⟨5,136,none⟩),.pointer (some p'),.int .u64 150])).run Tryz.prog w=.ok (some (136,p',150)) w:=by kernel_rfl
      show (do match <-ReflectliteValue.parts (.agg #[.pointer (some ⟨5,136,none⟩),.pointer (some p'),.int .u64 150]) with | none=>_ | some (t,a,fl)=>ReflectliteValue.isNil t a fl (fl % 32):Sem Value).run Tryz.prog w=_;simp only [Sem.run_bind,hparts,Result.andThen]
      rcases hpt with ⟨q',rfl,hq⟩ | ⟨rfl,hq⟩ <;> simp [ReflectliteValue.isNil,loadVar,isAgg,run_underlying Tryz.underlying136,load,Sem.run,hcell,hq]
     ·have hparts:(ReflectliteValue.parts (.agg #[.pointer (some ⟨5,150,none⟩),.pointer (some p'),.int .u64 150])).run Tryz.prog w=.ok (some (150,p',150)) w:=by kernel_rfl
      show (do match <-ReflectliteValue.parts (.agg #[.pointer (some ⟨5,150,none⟩),.pointer (some p'),.int .u64 150]) with | none=>_ | some (t,a,fl)=>ReflectliteValue.isNil t a fl (fl % 32):Sem Value).run Tryz.prog w=_;simp only [Sem.run_bind,hparts,Result.andThen]
      rcases hpt with ⟨q',rfl,hq⟩ | ⟨rfl,hq⟩ <;> simp [ReflectliteValue.isNil,loadVar,isAgg,run_underlying Tryz.underlying150,load,Sem.run,hcell,hq]
    ·cases h
   ·cases h
  ·cases h
 ·cases h
theorem vElem_ok (hh:Hands ω) {vs:List Value} {v:Value} {args:Array Value} (hs:SR B X m s w) (hl:LRel m vs args.toList) (h:spVElem vs s=some (v,s')) :
 ∃ v' w',(ReflectliteValue.method (ReflectliteValue.valueError "reflectlite.Value.Elem" 0) ReflectliteValue.elem args).run Tryz.prog w=.ok v' w'/\RelV B X m s' w v v' w':=by
 unfold spVElem at h
 split at h
 ·rename_i cs
  split at h
  ·rename_i hd p hcs
   split at h
   ·rename_i u hu
    split at h
    ·rename_i e q he hr0
     split at h
     ·rename_i k hk
      cases h
      obtain ⟨x',rfl,hx⟩:=args1 hl;obtain ⟨l',rfl,hr⟩:=agg_list hcs hx;obtain ⟨a',b',c',rfl,h1,h2,h3⟩:=l3 hr;obtain rfl:=hand_inv hh hu h1;obtain ⟨p',hp',rfl⟩:=ptr_inv h2;obtain rfl:=int_inv h3;obtain ⟨l2,g1,g2,g3⟩:=readN_sound hs hr0 hp';obtain ⟨z,rfl,hz⟩:=l1 g1;have hcell:=g3 0 z rfl;rw [show p'.add 0=p' by simp [Addr.add]] at hcell;obtain ⟨q',hq',rfl⟩:=ptr_inv hz;refine ⟨.agg #[.pointer (some ⟨5,e,none⟩),.pointer (some q'),.int .u64 ((k+384:Nat):Int)],w,?_,RelV.same hs (LRel.agg (l:=[_,_,_]) (l':=[_,_,_]) (LRel.cons (hand_rel hh e) (LRel.cons (.ptr _ _ hq') (LRel.cons (.plain _ rfl) (LRel.nil _)))))⟩
      rcases elem_of he with ⟨rfl,rfl⟩ | ⟨rfl,rfl⟩
      ·have hparts:(ReflectliteValue.parts (.agg #[.pointer (some ⟨5,136,none⟩),.pointer (some p'),.int .u64 150])).run Tryz.prog w=.ok (some (136,p',150)) w:=by kernel_rfl
       have hel:(Rtype.elem? 136).run Tryz.prog w=.ok (some 134) w:=by kernel_rfl
       have hmk:(ReflectliteValue.mk 134 q' ReflectliteValue.flagAddr).run Tryz.prog w=.ok (.agg #[.pointer (some ⟨5,134,none⟩),.pointer (some q'),.int .u64 ((k+384:Nat):Int)]) w:=by
        cases hk
        kernel_rfl
       show (do match <-ReflectliteValue.parts (.agg #[.pointer (some ⟨5,136,none⟩),.pointer (some p'),.int .u64 150]) with | none=>_ | some (t,a,fl)=>ReflectliteValue.elem t a fl (fl % 32):Sem Value).run Tryz.prog w=_;simp only [Sem.run_bind,hparts,Result.andThen];simp [ReflectliteValue.elem,loadVar,isAgg,run_underlying Tryz.underlying136,load,Sem.run,hcell,hel,hmk]
      ·have hparts:(ReflectliteValue.parts (.agg #[.pointer (some ⟨5,150,none⟩),.pointer (some p'),.int .u64 150])).run Tryz.prog w=.ok (some (150,p',150)) w:=by kernel_rfl
       have hel:(Rtype.elem? 150).run Tryz.prog w=.ok (some 80) w:=by kernel_rfl
       have hmk:(ReflectliteValue.mk 80 q' ReflectliteValue.flagAddr).run Tryz.prog w=.ok (.agg #[.pointer (some ⟨5,80,none⟩),.pointer (some q'),.int .u64 ((k+384:Nat):Int)]) w:=by
        cases hk
        kernel_rfl
       show (do match <-ReflectliteValue.parts (.agg #[.pointer (some ⟨5,150,none⟩),.pointer (some p'),.int .u64 150]) with | none=>_ | some (t,a,fl)=>ReflectliteValue.elem t a fl (fl % 32):Sem Value).run Tryz.prog w=_;simp only [Sem.run_bind,hparts,Result.andThen];simp [ReflectliteValue.elem,loadVar,isAgg,run_underlying Tryz.underlying150,load,Sem.run,hcell,hel,hmk]
     ·cases h
    ·cases h
   ·cases h
  ·cases h
 ·cases h
theorem kind_ok (hh:Hands ω) {vs:List Value} {v:Value} {args:Array Value} (hs:SR B X m s w) (hl:LRel m vs args.toList) (h:spKind vs s=some (v,s')) :
 ∃ v' w',((ReflectliteType.abiMethod fun t=>do pure (.int .u8 (<-Rtype.kind t))) args).run Tryz.prog w=.ok v' w'/\RelV B X m s' w v v' w':=by
 unfold spKind at h
 split at h
 ·rename_i hd
  split at h
  ·rename_i u hu
   split at h
   ·rename_i k hk
    cases h
    obtain ⟨x',rfl,hx⟩:=args1 hl;obtain rfl:=hand_inv hh hu hx;refine ⟨.int .u8 ((k:Nat):Int),w,?_,RelV.same hs (.plain _ rfl)⟩;show (Rtype.ofHandle (.pointer (some ⟨5,u,none⟩)) >>= fun t=>Rtype.noPack _ t >>= fun _=>Rtype.kind t >>= fun k=>pure (Value.int .u8 (k:Int)):Sem Value).run Tryz.prog w=_;simp only [Sem.run_bind,ofHandle_run,Result.andThen,pack_no _ u (packed_no hk),kindOf_run hk,Sem.run_pure]
   ·cases h
  ·cases h
 ·cases h
theorem rtElem_ok (hh:Hands ω) {vs:List Value} {v:Value} {args:Array Value} (hs:SR B X m s w) (hl:LRel m vs args.toList) (h:spRtElem vs s=some (v,s')) :
 ∃ v' w',(ReflectliteType.method ReflectliteType.elem args).run Tryz.prog w=.ok v' w'/\RelV B X m s' w v v' w':=by
 unfold spRtElem at h
 split at h
 ·rename_i cs
  split at h
  ·rename_i hd hcs
   split at h
   ·rename_i u hu
    split at h
    ·rename_i e he
     cases h
     obtain ⟨x',rfl,hx⟩:=args1 hl;obtain ⟨l',rfl,hr⟩:=agg_list hcs hx;obtain ⟨a',rfl,h1⟩:=l1 hr;obtain rfl:=hand_inv hh hu h1;refine ⟨_,w,?_,RelV.same hs (rt_rel hh e)⟩
     rcases elem_of he with ⟨rfl,rfl⟩ | ⟨rfl,rfl⟩ <;> kernel_rfl
    ·cases h
   ·cases h
  ·cases h
 ·cases h
theorem comparable_ok (hh:Hands ω) {vs:List Value} {v:Value} {args:Array Value} (hs:SR B X m s w) (hl:LRel m vs args.toList) (h:spComparable vs s=some (v,s')) :
 ∃ v' w',((ReflectliteType.method fun t=>do Rtype.noPackHeld "Comparable" t;pure (.bool (<-typeInfo t).comparable)) args).run Tryz.prog w=.ok v' w'/\RelV B X m s' w v v' w':=by
 unfold spComparable at h
 split at h
 ·rename_i cs
  split at h
  ·rename_i hd hcs
   split at h
   ·rename_i u hu
    cases he:isErrT u with
    | false=>rw [he] at h;cases h
    | true =>
     rw [he] at h
     cases h
     obtain ⟨x',rfl,hx⟩:=args1 hl;obtain ⟨l',rfl,hr⟩:=agg_list hcs hx;obtain ⟨a',rfl,h1⟩:=l1 hr;obtain rfl:=hand_inv hh hu h1;refine ⟨.bool true,w,?_,RelV.same hs (.plain _ rfl)⟩
     rcases err_of he with rfl | rfl <;> kernel_rfl
   ·cases h
  ·cases h
 ·cases h
theorem two_rt (hh:Hands ω) {cs ds:Array Value} {t:TypeId} {hd i:Value} (h1:cs.toList=[hd]) (h2:ds.toList=[i]) {u v:TypeId} (hu:tyOf hd=some u) (hv:tyOf i=some v) {args:Array Value} (hl:LRel m [.agg cs,.iface t (.agg ds)] args.toList) :
 args=#[.agg #[.pointer (some ⟨5,u,none⟩)],.iface t (.agg #[.pointer (some ⟨5,v,none⟩)])]:=by
 obtain ⟨x',y',rfl,hx,hy⟩:=args2 hl;obtain ⟨l',rfl,hr⟩:=agg_list h1 hx;obtain ⟨a',rfl,g1⟩:=l1 hr;obtain rfl:=hand_inv hh hu g1;obtain ⟨z,hz,rfl⟩:=iface_inv hy;obtain ⟨l2,rfl,hr2⟩:=agg_list h2 hz;obtain ⟨b',rfl,g2⟩:=l1 hr2;obtain rfl:=hand_inv hh hv g2;rfl
theorem implements_ok (hh:Hands ω) {vs:List Value} {v:Value} {args:Array Value} (hs:SR B X m s w) (hl:LRel m vs args.toList) (h:spImplements vs s=some (v,s')) :
 ∃ v' w',(ReflectliteType.relation "Implements" ReflectliteType.implements_ args).run Tryz.prog w=.ok v' w'/\RelV B X m s' w v v' w':=by
 unfold spImplements at h
 split at h
 ·rename_i cs t ds
  split at h
  ·rename_i hd i hcs hds
   split at h
   ·rename_i u x hu hx
    cases he:(isErrT u && Nat.beq x 37) with
    | false=>rw [he] at h;cases h
    | true =>
     rw [he] at h
     cases h
     rw [Bool.and_eq_true] at he;obtain rfl:=bE he.2;rw [two_rt hh hcs hds hu hx hl];refine ⟨.bool true,w,?_,RelV.same hs (.plain _ rfl)⟩
     rcases err_of he.1 with rfl | rfl <;> kernel_rfl
   ·cases h
  ·cases h
 ·cases h
theorem assign_ok (hh:Hands ω) {vs:List Value} {v:Value} {args:Array Value} (hs:SR B X m s w) (hl:LRel m vs args.toList) (h:spAssign vs s=some (v,s')) :
 ∃ v' w',(ReflectliteType.relation "AssignableTo" ReflectliteType.assignableTo args).run Tryz.prog w=.ok v' w'/\RelV B X m s' w v v' w':=by
 unfold spAssign at h
 split at h
 ·rename_i cs t ds
  split at h
  ·rename_i hd i hcs hds
   split at h
   ·rename_i u x hu hx
    cases he:(isErrT u && isErrT x) with
    | false=>rw [he] at h;cases h
    | true =>
     rw [he] at h
     cases h
     rw [Bool.and_eq_true] at he;rw [two_rt hh hcs hds hu hx hl];refine ⟨.bool (Nat.beq u x),w,?_,RelV.same hs (.plain _ rfl)⟩
     rcases err_of he.1 with rfl | rfl <;> rcases err_of he.2 with rfl | rfl <;> kernel_rfl
   ·cases h
  ·cases h
 ·cases h
theorem set_run {v x val:Value} {u:TypeId} {p q:Addr} {f g:Nat} {w':World} (hf:(f / ReflectliteValue.flagAddr % 2==0)=false) (h1:(ReflectliteValue.parts v).run Tryz.prog w=.ok (some (u,p,f)) w) (h2:(ReflectliteValue.parts x).run Tryz.prog w=.ok (some (u,q,g)) w)
 (h3:(loadVar u q).run Tryz.prog w=.ok val w) (h4:(Rtype.directlyAssignable u u).run Tryz.prog w=.ok true w) (h5:(storeVar u p val).run Tryz.prog w=.ok () w'):(ReflectliteValue.set #[v,x]).run Tryz.prog w=.ok (.tuple #[]) w':=by
 obtain ⟨k,k2,k3,e1,e2,e3⟩:∃ (k:Option (TypeId × Addr × Nat)->Option (TypeId × Addr × Nat)->Sem Value) (k2:Bool->Sem Value) (k3:Value->Bool->Sem Value),
  ReflectliteValue.set #[v,x]=(ReflectliteValue.parts v >>= fun a=>ReflectliteValue.parts x >>= fun b=>k a b) /\
  k (some (u,p,f)) (some (u,q,g))=k2 (f / ReflectliteValue.flagAddr % 2==0) /\
  (k2 false=(loadVar u q >>= fun val=>Rtype.directlyAssignable u u >>= fun b=>k3 val b)/\∀ val,k3 val true=(storeVar u p val >>= fun _=>pure (.tuple #[]))) :=
  ⟨_,fun b=>if b=true then _ else _,_,rfl,rfl,rfl,fun _=>rfl⟩
 rw [e1];simp only [Sem.run_bind,h1,h2,Result.andThen];rw [e2,hf,e3.1];simp only [Sem.run_bind,h3,h4,Result.andThen];rw [e3.2];simp only [Sem.run_bind,h5,Result.andThen,Sem.run_pure]
theorem set_ok (hh:Hands ω) {vs:List Value} {v:Value} {args:Array Value} (hs:SR B X m s w) (hl:LRel m vs args.toList) (h:spSet vs s=some (v,s')) :
 ∃ v' w',(ReflectliteValue.set args).run Tryz.prog w=.ok v' w'/\RelV B X m s' w v v' w':=by
 unfold spSet at h
 split at h
 ·rename_i cs ds
  split at h
  ·rename_i hd p f i q g hcs hds
   split at h
   ·rename_i u x hu hx
    split at h
    ·rename_i k y hk hr0
     cases hc:(isErrT u && (Nat.beq u x && (eqI f ((k+384:Nat):Int) && (eqI g ((k+128:Nat):Int) && oneV y)))) with
     | false=>rw [hc] at h;cases h
     | true =>
      rw [hc] at h;simp only [cond_true] at h;simp only [Bool.and_eq_true] at hc;obtain ⟨he,hux,hf,hg,ho⟩:=hc;obtain rfl:=bE hux;obtain rfl:=eqI_sound hf;obtain rfl:=eqI_sound hg
      split at h
      ·rename_i s2 hw
       cases h
       obtain ⟨x1,x2,rfl,hx1,hx2⟩:=args2 hl;obtain ⟨l',rfl,hr⟩:=agg_list hcs hx1;obtain ⟨a',b',c',rfl,h1,h2,h3⟩:=l3 hr;obtain ⟨l2,rfl,hr2⟩:=agg_list hds hx2;obtain ⟨a2,b2,c2,rfl,j1,j2,j3⟩:=l3 hr2;obtain rfl:=hand_inv hh hu h1;obtain rfl:=hand_inv hh hx j1;obtain ⟨p',hp',rfl⟩:=ptr_inv h2;obtain ⟨q',hq',rfl⟩:=ptr_inv j2;obtain rfl:=int_inv h3;obtain rfl:=int_inv j3;obtain ⟨l3',g1,g2,g3⟩:=readN_sound hs hr0 hq';obtain ⟨z,rfl,hz⟩:=l1 g1;have hcell:=g3 0 z rfl;rw [show q'.add 0=q' by simp [Addr.add]] at hcell;obtain ⟨w',hst,hs',hb⟩:=writeL_sound (P:=Tryz.prog) hs hw hp' (LRel.cons hz (LRel.nil m));have hoz:cellsOf z=[z]:=cellsOf_one (by have:=one_rel hz ho;revert this;cases z <;> simp [Value.oneCell',oneV]);refine ⟨.tuple #[],w',?_,m,Le.refl _,hs',LRel.tuple (l:=[]) (l':=[]) (LRel.nil m),hb⟩
       rcases err_of he with rfl | rfl
       ·cases hk
        refine set_run (u:=134) (p:=p') (q:=q') (f:=406) (g:=150) (val:=z) (by decide) (by kernel_rfl) (by kernel_rfl) ?_ (by kernel_rfl) ?_
        ·simp [loadVar,isAgg,run_underlying Tryz.underlying134,load,Sem.run,hcell]
        ·have hsz:(sizeOf 134).run Tryz.prog w=.ok 1 w:=by kernel_rfl
         simp only [storeVar,Sem.run_bind,hsz,Result.andThen,cells_arr,hoz]
         simpa using hst
       ·cases hk
        refine set_run (u:=80) (p:=p') (q:=q') (f:=386) (g:=130) (val:=z) (by decide) (by kernel_rfl) (by kernel_rfl) ?_ (by kernel_rfl) ?_
        ·simp [loadVar,isAgg,run_underlying Tryz.underlying80,load,Sem.run,hcell]
        ·have hsz:(sizeOf 80).run Tryz.prog w=.ok 1 w:=by kernel_rfl
         simp only [storeVar,Sem.run_bind,hsz,Result.andThen,cells_arr,hoz]
         simpa using hst
      ·cases h
    ·cases h
   ·cases h
  ·cases h
 ·cases h
end
def methT (t:TypeId) (name:String) (v:Value):Option (FuncId × Value) :=
 cond (Nat.beq t 187 && name == "Kind") (match v with
 | .agg cs=>match cs.toList with
  | [h]=>some (240,h)
  | _=>none
 | _=>none) none
theorem methT_ok:∀ t name v g rv,methT t name v=some (g,rv)->∀ (m:M ω) (v':Value),VRel m v v'->∃ rv',VRel m rv rv'/\∀ w,(method (Tryz.prog.types.size+Made.depth) t v' name).run Tryz.prog w=.ok (g,rv') w:=by
 intro t name v g rv h m v' hv;unfold methT at h
 cases hc:(Nat.beq t 187 && name == "Kind") with
 | false=>rw [hc] at h;cases h
 | true =>
  rw [hc] at h;simp only [cond_true] at h;rw [Bool.and_eq_true] at hc;obtain rfl:=bE hc.1
  obtain rfl:name= "Kind":=by simpa using hc.2
  split at h
  ·split at h
   ·rename_i cs hd hcs
    cases h
    obtain ⟨l',rfl,hr⟩:=agg_list hcs hv;obtain ⟨a',rfl,h1⟩:=l1 hr;exact ⟨a',h1,fun w=>by kernel_rfl⟩
   ·cases h
  ·cases h
def globT (g:Nat):Option Value:=cond (Nat.beq g 0) (some (rtV 37)) none
def SpOK (ω:Nat->Value) (C:Ctx) (g:FuncId) (k:SpF):Prop:=∀ vs s v s',k vs s=some (v,s')->∀ (B:Nat) (X:Aux) (m:M ω) (w:World) (args:Array Value),SR B X m s w->LRel m vs args.toList->Bs ω C B w->CallOK C g args w (RelV B X m s' w v)
section
variable {C:Ctx}
theorem spTypeOf_sp (hh:Hands ω) (hP:C.P=Tryz.prog):SpOK ω C 76 spTypeOf:=by
 intro vs s v s' hv B X m w args hs hr hB;exact ext_ok hP ReflectliteType.typeOf Tryz.func76 (by kernel_rfl) (by kernel_rfl) (by kernel_rfl) (by kernel_rfl) (typeOf_ok hh hs hr hv)
theorem spValueOf_sp (hh:Hands ω) (hP:C.P=Tryz.prog):SpOK ω C 93 spValueOf:=by
 intro vs s v s' hv B X m w args hs hr hB;exact ext_ok hP (fun args=>ReflectliteValue.unpack (args.getD 0 (.tuple #[]))) Tryz.func93 (by kernel_rfl) (by kernel_rfl) (by kernel_rfl) (by kernel_rfl) (valueOf_ok hh hB.le hs hr hv)
theorem spType_sp (hh:Hands ω) (hP:C.P=Tryz.prog):SpOK ω C 94 spType:=by
 intro vs s v s' hv B X m w args hs hr hB;exact ext_ok hP (ReflectliteValue.methodAny (ReflectliteValue.valueError "reflectlite.Value.Type" 0) (fun t _ _ _=>ReflectliteType.toType t)) Tryz.func94 (by kernel_rfl) (by kernel_rfl) (by kernel_rfl) (by kernel_rfl) (type_ok hh hs hr hv)
theorem spIsNil_sp (hh:Hands ω) (hP:C.P=Tryz.prog):SpOK ω C 95 spIsNil:=by
 intro vs s v s' hv B X m w args hs hr hB;exact ext_ok hP (ReflectliteValue.method (ReflectliteValue.valueError "reflectlite.Value.IsNil" 0) ReflectliteValue.isNil) Tryz.func95 (by kernel_rfl) (by kernel_rfl) (by kernel_rfl) (by kernel_rfl) (isNil_ok hh hs hr hv)
theorem spVElem_sp (hh:Hands ω) (hP:C.P=Tryz.prog):SpOK ω C 126 spVElem:=by
 intro vs s v s' hv B X m w args hs hr hB;exact ext_ok hP (ReflectliteValue.method (ReflectliteValue.valueError "reflectlite.Value.Elem" 0) ReflectliteValue.elem) Tryz.func126 (by kernel_rfl) (by kernel_rfl) (by kernel_rfl) (by kernel_rfl) (vElem_ok hh hs hr hv)
theorem spSet_sp (hh:Hands ω) (hP:C.P=Tryz.prog):SpOK ω C 127 spSet:=by
 intro vs s v s' hv B X m w args hs hr hB;exact ext_ok hP ReflectliteValue.set Tryz.func127 (by kernel_rfl) (by kernel_rfl) (by kernel_rfl) (by kernel_rfl) (set_ok hh hs hr hv)
theorem spKind_sp (hh:Hands ω) (hP:C.P=Tryz.prog):SpOK ω C 240 spKind:=by
 intro vs s v s' hv B X m w args hs hr hB;exact ext_ok hP (ReflectliteType.abiMethod fun t=>do pure (.int .u8 (<-Rtype.kind t))) Tryz.func240 (by kernel_rfl) (by kernel_rfl) (by kernel_rfl) (by kernel_rfl) (kind_ok hh hs hr hv)
theorem spRtElem_sp (hh:Hands ω) (hP:C.P=Tryz.prog):SpOK ω C 253 spRtElem:=by
 intro vs s v s' hv B X m w args hs hr hB;exact ext_ok hP (ReflectliteType.method ReflectliteType.elem) Tryz.func253 (by kernel_rfl) (by kernel_rfl) (by kernel_rfl) (by kernel_rfl) (rtElem_ok hh hs hr hv)
theorem spImplements_sp (hh:Hands ω) (hP:C.P=Tryz.prog):SpOK ω C 254 spImplements:=by
 intro vs s v s' hv B X m w args hs hr hB;exact ext_ok hP (ReflectliteType.relation "Implements" ReflectliteType.implements_) Tryz.func254 (by kernel_rfl) (by kernel_rfl) (by kernel_rfl) (by kernel_rfl) (implements_ok hh hs hr hv)
theorem spAssign_sp (hh:Hands ω) (hP:C.P=Tryz.prog):SpOK ω C 251 spAssign:=by
 intro vs s v s' hv B X m w args hs hr hB;exact ext_ok hP (ReflectliteType.relation "AssignableTo" ReflectliteType.assignableTo) Tryz.func251 (by kernel_rfl) (by kernel_rfl) (by kernel_rfl) (by kernel_rfl) (assign_ok hh hs hr hv)
theorem spComparable_sp (hh:Hands ω) (hP:C.P=Tryz.prog):SpOK ω C 252 spComparable:=by
 intro vs s v s' hv B X m w args hs hr hB;exact ext_ok hP (ReflectliteType.method fun t=>do Rtype.noPackHeld "Comparable" t;pure (.bool (<-typeInfo t).comparable)) Tryz.func252 (by kernel_rfl) (by kernel_rfl) (by kernel_rfl) (by kernel_rfl) (comparable_ok hh hs hr hv)
theorem spL_ok (hh:Hands ω) (hP:C.P=Tryz.prog):∀ p∈spL,SpOK ω C p.1 p.2:=by
 intro p hp;simp only [spL,List.mem_cons,List.not_mem_nil,or_false] at hp
 rcases hp with rfl | rfl | rfl | rfl | rfl | rfl | rfl | rfl | rfl | rfl | rfl
 ·exact spTypeOf_sp hh hP
 ·exact spValueOf_sp hh hP
 ·exact spType_sp hh hP
 ·exact spIsNil_sp hh hP
 ·exact spVElem_sp hh hP
 ·exact spSet_sp hh hP
 ·exact spKind_sp hh hP
 ·exact spRtElem_sp hh hP
 ·exact spImplements_sp hh hP
 ·exact spAssign_sp hh hP
 ·exact spComparable_sp hh hP
end
end Go.Proofs.YtenfkghoolegfaaGreatDoor.Ev
namespace Go.Proofs.YtenfkghoolegfaaGreatDoor
open Go.ChangeShapes Go.WideShapes Go.ChangeAt Go.RowKit Go.Joins Go.Deep
theorem own:ownKnob Tryz.prog.godebug=none:=by kernel_rfl
theorem laidOut:laidOutB Tryz.prog=true:=by kernel_rfl
theorem errVar:Tryz.prog.globalNamed "errors.errorType"=some 0:=by kernel_rfl
theorem rtypeOf:(Tryz.prog.cutTypes.find? (·.1 == "internal/reflectlite.rtype")).map (·.2)=some 187:=by kernel_rfl
theorem oneRow:((List.range Tryz.prog.types.size).filter fun t=>Tryz.prog.rowNamed t [101,114,114,111,114])=[37]:=by kernel_rfl
def laidD:List (String × DataW Unit):=[("math/bits.deBruijn32tab",Rows.laid_math_bits_deBruijn32tab),("math/bits.deBruijn64tab",Rows.laid_math_bits_deBruijn64tab),("internal/strconv.uint64pow10",Rows.laid_internal_strconv_uint64pow10)]
def laidL:List (String × DataW Unit):=[("math/bits.deBruijn32tab",Rows.laid_math_bits_deBruijn32tab),("math/bits.deBruijn64tab",Rows.laid_math_bits_deBruijn64tab),("internal/strconv.uint64pow10",Rows.laid_internal_strconv_uint64pow10),("errors.errorType",Rows.laid_errors_errorType)]
theorem handle_of_laid {W:World} (h:laidMetH Tryz.prog laidL W):W.cell? ⟨0,0,none⟩=some (.iface 187 (.agg #[.pointer (some ⟨5,37,none⟩)])):=by
 have h':laidMet Tryz.prog laidD W/\handlesMet Tryz.prog [("errors.errorType",Rows.laid_errors_errorType)] W:=h;obtain ⟨name,u,ty,e1,e2,e3,e4,e5⟩:=h'.2 _ (List.mem_singleton.2 rfl);have en:name=[101,114,114,111,114]:=(Option.some.inj e1).symm;subst en;obtain rfl:=Option.some.inj (rtypeOf.symm.trans e2);have hm:ty∈(List.range Tryz.prog.types.size).filter fun t=>Tryz.prog.rowNamed t [101,114,114,111,114]:=List.mem_filter.2 ⟨List.mem_range.2 e3,e4⟩;rw [oneRow] at hm;obtain rfl:=List.mem_singleton.1 hm
 have hh:typeHandle Tryz.prog 37=.pointer (some ⟨5,37,none⟩):=by kernel_rfl
 rw [hh] at e5
 simpa using World.var?_cell errVar e5 0
theorem iv_of {W:World} (h:laidMetH Tryz.prog laidL W):∀ g cs,Ev.ivT g=some cs->g<W.heap.size/\∃ t fz,W.heap[g]?=some (.cells cs t fz):=by
 intro g0 cs0 hg0;unfold Ev.ivT at hg0
 cases hb:Nat.beq g0 1 with
 | false=>rw [hb] at hg0;cases hg0
 | true =>
  rw [hb] at hg0;obtain rfl:=bE hb
  cases hg0
  have h':laidMet Tryz.prog laidD W/\handlesMet Tryz.prog [("errors.errorType",Rows.laid_errors_errorType)] W:=h;obtain ⟨ps,⟨_,_,_,_,_,_,_,_,_,_,⟨_,_,_,_,_,_,_,_,_,_,⟨g,t,cs,fuel,p,q,hg,ht,hv,hd,_,_⟩,_⟩,_⟩,_,_⟩:=h'.1;obtain rfl:=Option.some.inj ((show Tryz.prog.globalNamed "internal/strconv.uint64pow10"=some 1 by kernel_rfl).symm.trans hg);obtain rfl:=Option.some.inj ((show (Tryz.prog.globals[1]?).map (·.type)=some 277 by kernel_rfl).symm.trans ht);obtain ⟨xs,m,_,ex,hcl,hl,hel⟩:=DataW.trod_array Tryz.underlying277 hd
  have c5:Tryz.prog.cellsOf 34=1:=by kernel_rfl
  have c6:Tryz.prog.cellsOf 277=20:=by kernel_rfl
  have ecs:cs=(Lib.pow10Tab.map fun z=>Value.int .u64 z).toArray:=by
   refine Array.ext (by rw [<-Array.length_toList,hcl,c6];rfl) fun r hr1 hr2=>?_
   have hr:r<20:=by simpa [Lib.pow10Tab] using hr2
   have hE:=hel r hr;rw [c5,Nat.mul_one,gE (by omega)] at hE;obtain ⟨z,e1,e2,_⟩:=DataW.trod_int Tryz.underlying34 hE;have e3:(xs.map (·.1))=Lib.pow10Tab.map fun n=>(DataW.lit (.int .u64 n):DataW Unit):=((DataW.agg.inj (Prod.mk.inj ex).1).symm).trans (by rfl)
   have e4:(xs.map (·.1))[r]?=(Lib.pow10Tab.map fun n=>(DataW.lit (.int .u64 n):DataW Unit))[r]?:=by rw [e3]
   have hlp:Lib.pow10Tab.length=20:=by simp [Lib.pow10Tab]
   rw [List.getElem?_map,List.getElem?_map,gE (by omega:r<xs.length),gE (by omega:r<Lib.pow10Tab.length),e2] at e4;simp only [Option.map_some,Option.some.injEq,DataW.lit.injEq,Lit.int.injEq,true_and] at e4
   have h0:((cs.toList.drop r).take 1)[0]?=some (.int .u64 z):=by rw [e1];rfl
   have h1:cs[r]?=some (.int .u64 z):=by simpa using h0
   rw [Array.getElem?_eq_getElem hr1] at h1;rw [Option.some.inj h1,e4];simp
  subst ecs;simp only [World.var?,hg,Option.bind_some] at hv
  split at hv
  ·rename_i cs' t' fz' hcs
   cases hv
   exact ⟨(aS.1 hcs).1,t',fz',hcs⟩
  ·cases hv
def litCells (d:DataW Unit):Array Value:=match d with
 | .agg l=>(l.map fun
  | .lit (.int k n)=>Value.int k n
  | _=>.nilIface).toArray
 | _=>#[]
def layAt (h:Array Obj) (g:Nat) (cs:Array Value):Array Obj:=h.modify g fun
 | .cells _ t frozen=>.cells cs t frozen
 | o=>o
noncomputable def laidWorld (os:Os):World :=
 let w0:=World.holding Tryz.prog os ⟨#[],#[],[]⟩
 {w0 with heap:=layAt (layAt (layAt (layAt w0.heap 0 #[.iface 187 (.agg #[.pointer (some ⟨5,37,none⟩)])]) 1 (litCells Rows.laid_internal_strconv_uint64pow10)) 3 (litCells Rows.laid_math_bits_deBruijn32tab)) 4 (litCells Rows.laid_math_bits_deBruijn64tab)}
theorem laidWorld_data (os:Os) (args:Array Value):laidMet Tryz.prog laidD ((laidWorld os).forCall (fun _ _=>0) ⟨#[],args,[]⟩).memory :=
 laidMet_of_run' 100 (by kernel_rfl) (by kernel_rfl)
theorem laidWorld_met (os:Os) (args:Array Value):laidMetH Tryz.prog laidL ((laidWorld os).forCall (fun _ _=>0) ⟨#[],args,[]⟩).memory :=
 laidMetH_of_parts (laidWorld_data os args) (by kernel_rfl)
open Ev
variable {ω:Nat->Value}
theorem glob_of (hh:Hands ω) {w:World} (h:w.cell? ⟨0,0,none⟩=some (.iface 187 (.agg #[.pointer (some ⟨5,37,none⟩)]))) :
 ∀ g v,globT g=some v->g<w.heap.size/\∃ v',w.cell? ⟨g,0,none⟩=some v'/\∀ m:M ω,VRel m v v':=by
 intro g v hg;unfold globT at hg
 cases hb:Nat.beq g 0 with
 | false=>rw [hb] at hg;cases hg
 | true =>
  rw [hb] at hg;obtain rfl:=bE hb
  cases hg
  exact ⟨World.block_lt_of_cell? w _ h,_,h,fun m=>rt_rel hh _⟩
def isTr (r:Option (Value × AS)):Bool:=match r with
 | some (.bool b,_)=>b
 | _=>false
theorem isTr_some {r:Option (Value × AS)} (h:isTr r=true):∃ s',r=some (.bool true,s'):=by
 unfold isTr at h
 split at h
 ·rename_i b s';subst h;exact ⟨s',rfl⟩
 ·cases h
theorem Fact.strNeq {P:Program} {x y:Value} {s u:ByteArray} (hx:den ω x=.string s) (hy:den ω y=.string u) (tx:tokB x=true) (ty:tokB y=true) {b:Bool} (h:(!(s.toList==u.toList))=b):(⟨.neq,x,y,.bool b⟩:Fact).ok ω P :=
 ⟨tx,ty,rfl,fun k e=>(by cases e),fun t ox oy w=>by
  show (do eqGuard .neq t ox oy (den ω x) (den ω y);binOp .neq t (den ω x) (den ω y):Sem Value).run P w=.ok (.bool b) w;rw [hx,hy,<-h]
  simp [binOp,eqGuard,Op.stringOp]⟩
end Go.Proofs.YtenfkghoolegfaaGreatDoor
namespace Go.Proofs.YtenfkghoolegfaaGreatDoor.Ev
open Go.RowKit Go.Extern
variable {ω:Nat->Value}
theorem sr_empty (w:World):SR (ω:=ω) w.heap.size ⟨fun _=>none,fun _=>none⟩ (fun _=>none) ⟨0,.leaf⟩ w :=
 ⟨fun b o i h1=>(by cases h1),fun b c o p i j h1=>(by cases h1),fun b _=>rfl,fun b _=>rfl,fun b o h1=>(by cases h1),fun r o h1=>(by cases h1),fun b i h1=>(by cases h1)⟩
def GlobOK (C:Ctx):Prop:=C.glob=globT/\∀ g cs,ivT g=some cs->C.iv g=some cs
def spKnown (v:Value):SpF
 | [],s=>some (v,s)
 | _,_=>none
noncomputable def CX (ext:List (FuncId × SpF)) (fs:List Fact) (ls:List (TypeId × Nat × Nat)) (cnv:TypeId->TypeId->Value->Option Value) (rd:Nat->Bool):Ctx:=CT (fun g=>spFind (ext++spL) g) globT methT fs ls cnv rd
theorem cxOK (hh:Hands ω) {ext:List (FuncId × SpF)} (he:∀ p∈ext,∀ C:Ctx,C.P=Tryz.prog->GlobOK C->SpOK ω C p.1 p.2) {fs:List Fact} (hf:∀ f∈fs,f.ok ω Tryz.prog) {ls:List (TypeId × Nat × Nat)} (hl:∀ f∈ls,LenOK ω Tryz.prog f) {cnv:TypeId->TypeId->Value->Option Value}
 (hc:∀ src dst x v,cnv src dst x=some v->∀ (m:M ω) (x':Value) (w:World),VRel m x x'->∃ v',(convert src dst x').run Tryz.prog w=.ok v' w/\VRel m v v') (rd:Nat->Bool):COK ω (CX ext fs ls cnv rd) :=
 ⟨ctOK _ globT methT_ok hf hl hc rd,mixed,fun g k hk=>spFind_ok (Q:=SpOK ω (CX ext fs ls cnv rd)) (fun p hp=>(List.mem_append.1 hp).elim (fun h=>he p h _ rfl ⟨rfl,fun _ _ h=>h⟩) (fun h=>spL_ok hh rfl p h)) g k hk⟩
def ivF (f:Nat->Option (Array Value)) (g:Nat):Option (Array Value):=match ivT g with
 | some c=>some c
 | none=>f g
noncomputable def CXf (f:Nat->Option (Array Value)) (ext:List (FuncId × SpF)) (fs:List Fact) (ls:List (TypeId × Nat × Nat)) (cnv:TypeId->TypeId->Value->Option Value) (rd:Nat->Bool):Ctx :=
 ⟨Tryz.prog,fun f=>fnT.get f,fun t=>(tyT.get t).map (·.1),fun t=>(tyT.get t).map (·.2.desc),fun g=>spFind (ext++spL) g,globT,methT,fun op _ x y=>binOf fs op x y,fun t x=>lenOf ls t x,cnv,rd,ivF f⟩
end Go.Proofs.YtenfkghoolegfaaGreatDoor.Ev
namespace Go.Proofs.YtenfkghoolegfaaGreatDoor
section
def fixN:Nat->Nat->List UInt8
 | 0,_=>[]
 | s+1,n=>fixN s (n / 256)++[UInt8.ofNat (n % 256)]
def numN (b:List UInt8):Nat:=b.foldl (fun n c=>n*256+c.toNat) 0
theorem fL:∀ (s n:Nat),(fixN s n).length=s
 | 0,_=>rfl
 | s+1,n=>by simp [fixN,fL s]
theorem numN_snoc (b:List UInt8) (c:UInt8):numN (b++[c])=numN b*256+c.toNat:=by simp [numN]
theorem u8_of {n:Nat} (h:n<256):(UInt8.ofNat n).toNat=n:=by rw [UInt8.toNat_ofNat'];omega
theorem u8_id (c:UInt8):UInt8.ofNat c.toNat=c:=by simp
theorem numN_fixN:∀ (s n:Nat),n<256 ^ s->numN (fixN s n)=n
 | 0,n,h=>by simp at h;subst h;rfl
 | s+1,n,h=>by
  rw [fixN,numN_snoc,numN_fixN s (n / 256) (Nat.div_lt_of_lt_mul (by rw [Nat.pow_succ] at h;omega)),u8_of (by omega)];omega
theorem snoc_ind {α:Type} {p:List α->Prop} (h0:p []) (h1:∀ l x,p l->p (l++[x])) (l:List α):p l:=by
 have:∀ m:List α,p m.reverse:=fun m=>by
  induction m with
  | nil=>exact h0
  | cons x m ih=>rw [List.reverse_cons];exact h1 _ _ ih
 have h:=this l.reverse
 rwa [List.reverse_reverse] at h
theorem numN_lt (b:List UInt8):numN b<256 ^ b.length:=by
 induction b using snoc_ind with
 | h0=>decide
 | h1 b c ih =>
  rw [numN_snoc,lQ,List.length_singleton,Nat.pow_succ];have:=c.toNat_lt;omega
theorem fixN_numN (b:List UInt8):fixN b.length (numN b)=b:=by
 induction b using snoc_ind with
 | h0=>rfl
 | h1 b c ih =>
  rw [lQ,List.length_singleton,fixN,numN_snoc];have hc:=c.toNat_lt;rw [show (numN b*256+c.toNat) / 256=numN b by omega,show (numN b*256+c.toNat) % 256=c.toNat by omega,ih,u8_id]
theorem numN_take_succ {b:List UInt8} {k:Nat} (h:k<b.length):numN (b.take (k+1))=numN (b.take k)*256+b[k].toNat:=by
 rw [List.take_succ_eq_append_getElem h,numN_snoc]
end
section
def putF:Nat->Nat->List UInt8
 | 0,_=>[]
 | f+1,n=>if n<128 then [UInt8.ofNat n] else UInt8.ofNat (n % 128+128)::putF f (n / 128)
def putN (n:Nat):List UInt8:=putF 10 n
def getF:Nat->Nat->List UInt8->Nat × Nat × Int
 | 0,_,_=>(0,0,11)
 | f+1,i,[]=>(0,0,10)
 | f+1,i,c::r =>
  if i=9/\1<c.toNat then (0,0,11)
  else if c.toNat<128 then (if 0<i/\c.toNat=0 then (0,0,12) else (c.toNat,1,0))
  else if (getF f (i+1) r).2.2=0 then (c.toNat-128+128*(getF f (i+1) r).1,(getF f (i+1) r).2.1+1,0) else (0,0,(getF f (i+1) r).2.2)
def getN (b:List UInt8):Nat × Nat × Int:=getF 10 0 b
theorem u8_small {n:Nat} (h:n<256):(UInt8.ofNat n).toNat=n:=by rw [UInt8.toNat_ofNat'];omega
theorem u8_back (c:UInt8):UInt8.ofNat c.toNat=c:=by simp
theorem get_put:∀ (f i n:Nat) (r:List UInt8),f+i=10->0<f->(i=9->n<2)->n<128 ^ f->n<2 ^ (64-7*i)->(0<i->0<n)->getF f i (putF f n++r)=(n,(putF f n).length,0)
 | 0,_,_,_,_,h,_,_,_,_=>absurd h (by omega)
 | f+1,i,n,r,hf,_,h9,hp,h64,hi=>by
  unfold putF;by_cases h:n<128
  ·rw [if_pos h];have e:(UInt8.ofNat n).toNat=n:=u8_small (by omega);show getF (f+1) i (UInt8.ofNat n::r)=_;unfold getF;rw [e,if_neg (fun hh=>by have:=h9 hh.1;omega),if_pos h,if_neg (fun hh=>by have:=hi hh.1;omega)];rfl
  ·rw [if_neg h];have e:(UInt8.ofNat (n % 128+128)).toNat=n % 128+128:=u8_small (by omega)
   have hi9:i≠9:=fun hh=>by have:=h9 hh;omega
   have hf0:0<f:=by omega
   have hdiv:n / 128<128 ^ f:=by rw [Nat.pow_succ] at hp;exact Nat.div_lt_of_lt_mul (by rw [Nat.mul_comm];exact hp)
   have h64':n / 128<2 ^ (64-7*(i+1)):=by
    refine Nat.div_lt_of_lt_mul ?_;rw [show (128:Nat)=2 ^ 7 from rfl,<-Nat.pow_add,show 7+(64-7*(i+1))=64-7*i by omega];exact h64
   have ih:=get_put f (i+1) (n / 128) r (by omega) hf0 (fun hh=>by
    have h8:i=8:=by omega
    subst h8;have:n<2 ^ 8:=h64
    omega) hdiv h64' (fun _=>by omega)
   show getF (f+1) i (UInt8.ofNat (n % 128+128)::(putF f (n / 128)++r))=_;unfold getF;rw [e,if_neg (fun hh=>hi9 hh.1),if_neg (by omega),ih,if_pos rfl];simp only [List.length_cons,Prod.mk.injEq,and_true];omega
theorem getN_putN {n:Nat} (h:n<18446744073709551616) (r:List UInt8):getN (putN n++r)=(n,(putN n).length,0) :=
 get_put 10 0 n r rfl (by omega) (by omega) (lT h (by decide)) h (by omega)
theorem put_get:∀ (f i:Nat) (b:List UInt8),f+i=10->(getF f i b).2.2=0->b.take (getF f i b).2.1=putF f (getF f i b).1/\(getF f i b).2.1<=b.length/\0<(getF f i b).2.1/\(0<i->0<(getF f i b).1)/\(getF f i b).1<2 ^ (64-7*i)
 | 0,i,b,_,h=>by simp [getF] at h
 | f+1,i,[],_,h=>by simp [getF] at h
 | f+1,i,c::r,hf,h=>by
  have hc:c.toNat<256:=c.toNat_lt;unfold getF at h ⊢;by_cases h9:i=9/\1<c.toNat
  ·rw [if_pos h9] at h;simp at h
  ·rw [if_neg h9] at h ⊢;by_cases hs:c.toNat<128
   ·rw [if_pos hs] at h ⊢;by_cases h0:0<i/\c.toNat=0
    ·rw [if_pos h0] at h;simp at h
    ·rw [if_neg h0];refine ⟨?_,by simp,by simp,fun hi=>?_,?_⟩
     ·show [c]=putF (f+1) c.toNat;unfold putF;rw [if_pos hs,u8_back]
     ·show 0<c.toNat;have:¬ c.toNat=0:=fun hh=>h0 ⟨hi,hh⟩;omega
     ·show c.toNat<2 ^ (64-7*i);by_cases e9:i=9
      ·subst e9;have:¬ 1<c.toNat:=fun hh=>h9 ⟨rfl,hh⟩;show c.toNat<2 ^ 1;omega
      ·have hi8:i<=8:=by omega
       exact lT (show c.toNat<2 ^ 8 by omega) (Nat.pow_le_pow_right (by omega) (by omega))
   ·rw [if_neg hs] at h ⊢;by_cases he:(getF f (i+1) r).2.2=0
    ·rw [if_pos he];obtain ⟨h1,h2,h3,h4,h5⟩:=put_get f (i+1) r (by omega) he;have hn:=h4 (by omega);refine ⟨?_,by simpa using h2,Nat.succ_pos _,fun _=>by show 0<c.toNat-128+128*(getF f (i+1) r).1;omega,?_⟩
     ·show (c::r).take ((getF f (i+1) r).2.1+1)=_;rw [List.take_succ_cons,h1];show _=putF (f+1) (c.toNat-128+128*(getF f (i+1) r).1);rw [putF,if_neg (by omega),show (c.toNat-128+128*(getF f (i+1) r).1) % 128+128=c.toNat by omega,show (c.toNat-128+128*(getF f (i+1) r).1) / 128=(getF f (i+1) r).1 by omega,u8_back]
     ·show c.toNat-128+128*(getF f (i+1) r).1<2 ^ (64-7*i)
      have hi8:i<=8:=by
       have:i<=9:=by omega
       rcases Nat.lt_or_ge i 9 with h | h
       ·omega
       ·exfalso
        have:i=9:=by omega
        exact h9 ⟨this,by omega⟩
      rw [show 64-7*i=7+(64-7*(i+1)) by omega,Nat.pow_add];have:(2:Nat) ^ 7=128:=rfl;rw [this];have h6:(getF f (i+1) r).1+1<=2 ^ (64-7*(i+1)):=h5;have:=Nat.mul_le_mul_left 128 h6;omega
    ·rw [if_neg he] at h;exact absurd h he
theorem putN_getN {b:List UInt8} (h:(getN b).2.2=0):b.take (getN b).2.1=putN (getN b).1/\(getN b).2.1<=b.length/\0<(getN b).2.1/\(getN b).1<18446744073709551616:=by
 obtain ⟨h1,h2,h3,_,h5⟩:=put_get 10 0 b rfl h;exact ⟨h1,h2,h3,h5⟩
theorem putF_len:∀ (f n:Nat),(putF f n).length<=f
 | 0,_=>nR _
 | f+1,n=>by
  unfold putF
  split
  ·simp
  ·simp only [List.length_cons];have:=putF_len f (n / 128);omega
theorem putN_len (n:Nat):(putN n).length<=10:=putF_len 10 n
end
section
structure PC where
 key:List UInt8
 size:Int
 val:List UInt8
 over:Nat
 kid:Nat
def leafOK (c:PC):Bool:=decide (1<=c.key.length/\c.key.length<=24/\0<=c.size/\c.size<=1000/\c.kid=0/\(c.size<=40->(c.val.length:Int)=c.size/\c.over=0)/\(40<c.size->c.val.length=0/\0<c.over))
def leafB (c:PC):List UInt8:=UInt8.ofNat c.key.length::(c.key++(putN c.size.toNat++(if c.size<=40 then c.val else fixN 4 c.over)))
def innerOK (c:PC):Bool:=decide (c.key.length<=24/\0<c.kid/\c.size=0/\c.over=0/\c.val.length=0)
def innerB (c:PC):List UInt8:=fixN 4 c.kid++(UInt8.ofNat c.key.length::c.key)
def PC.fit (c:PC):Prop:=c.over<4294967296/\c.kid<4294967296
def leafR (b:List UInt8):Option PC :=
 match b with
 | []=>none
 | n::r =>
  if (getN (r.drop n.toNat)).2.2≠0\/1000<(getN (r.drop n.toNat)).1 then none
  else some (if (getN (r.drop n.toNat)).1<=40
   then ⟨r.take n.toNat,((getN (r.drop n.toNat)).1:Nat),(r.drop n.toNat).drop (getN (r.drop n.toNat)).2.1,0,0⟩
   else ⟨r.take n.toNat,((getN (r.drop n.toNat)).1:Nat),[],(if ((r.drop n.toNat).drop (getN (r.drop n.toNat)).2.1).length<=8 then numN ((r.drop n.toNat).drop (getN (r.drop n.toNat)).2.1) % 4294967296 else 0),0⟩)
def leafG (b:List UInt8):Option PC:=match leafR b with
 | none=>none
 | some c=>if leafOK c=true/\leafB c=b then some c else none
def innerR (b:List UInt8):PC:=⟨match b.drop 4 with
 | []=>[]
 | n::r=>r.take n.toNat,0,[],0,numN (b.take 4)⟩
def innerG (b:List UInt8):Option PC:=if innerOK (innerR b)=true/\innerB (innerR b)=b then some (innerR b) else none
theorem leafB_len {c:PC} (h:leafOK c=true):3<=(leafB c).length/\(leafB c).length<=67:=by
 unfold leafOK at h;rw [decide_eq_true_eq] at h;obtain ⟨h1,h2,h3,h4,h5,h6,h7⟩:=h
 have hp:1<=(putN c.size.toNat).length/\(putN c.size.toNat).length<=2:=by
  unfold putN;rw [putF]
  split
  ·simp
  ·rw [putF,if_pos (by omega)];simp
 unfold leafB;rw [List.length_cons,lQ,lQ];by_cases h8:c.size<=40
 ·rw [if_pos h8];have:=(h6 h8).1;omega
 ·rw [if_neg h8,fL];omega
theorem innerB_len {c:PC} (h:innerOK c=true):5<=(innerB c).length/\(innerB c).length<=29:=by
 unfold innerOK at h;rw [decide_eq_true_eq] at h;obtain ⟨h1,_⟩:=h;unfold innerB;rw [lQ,fL,List.length_cons];omega
theorem leafG_B {c:PC} (h:leafOK c=true) (hf:c.fit):leafG (leafB c)=some c:=by
 have h0:=h;unfold leafOK at h;rw [decide_eq_true_eq] at h;obtain ⟨h1,h2,h3,h4,h5,h6,h7⟩:=h;have hk:(UInt8.ofNat c.key.length).toNat=c.key.length:=u8_of (by omega)
 have key:leafR (leafB c)=some c:=by
  have hd:(c.key++(putN c.size.toNat++(if c.size<=40 then c.val else fixN 4 c.over))).drop c.key.length=putN c.size.toNat++(if c.size<=40 then c.val else fixN 4 c.over):=by simp
  have ht:(c.key++(putN c.size.toNat++(if c.size<=40 then c.val else fixN 4 c.over))).take c.key.length=c.key:=by simp
  have hg:getN (putN c.size.toNat++(if c.size<=40 then c.val else fixN 4 c.over))=(c.size.toNat,(putN c.size.toNat).length,0):=getN_putN (by omega) _;unfold leafR leafB;simp only [hk,hd,ht,hg];rw [if_neg (by simp;omega)]
  have hdd:(putN c.size.toNat++(if c.size<=40 then c.val else fixN 4 c.over)).drop (putN c.size.toNat).length=(if c.size<=40 then c.val else fixN 4 c.over):=by simp
  rw [hdd];congr 1;obtain ⟨key,size,val,over,kid⟩:=c;simp only at h1 h2 h3 h4 h5 h6 h7 hf ⊢;by_cases h8:size<=40
  ·rw [if_pos (by omega),if_pos h8,(h6 h8).2,h5];congr 1;omega
  ·have hv:=List.eq_nil_of_length_eq_zero (h7 (by omega)).1;rw [if_neg (by omega),if_neg h8,hv,h5,fL,if_pos (by omega),numN_fixN 4 over (by have:=hf.1;simpa using this),Nat.mod_eq_of_lt hf.1];congr 1;omega
 unfold leafG;rw [key];simp [h0]
theorem leafG_fit {b:List UInt8} {c:PC} (h:leafG b=some c):c.fit:=by
 unfold leafG at h
 split at h
 ·cases h
 ·rename_i c' hc
  split at h
  ·cases h
   unfold leafR at hc
   split at hc
   ·cases hc
   ·split at hc
    ·cases hc
    ·cases hc
     split
     ·exact ⟨(by decide:0<4294967296),(by decide:0<4294967296)⟩
     ·refine ⟨?_,(by decide:0<4294967296)⟩;show (if _ then _ else _)<_
      split
      ·exact Nat.mod_lt _ (by decide)
      ·decide
  ·cases h
theorem innerG_B {c:PC} (h:innerOK c=true) (hf:c.fit):innerG (innerB c)=some c:=by
 have h0:=h;unfold innerOK at h;rw [decide_eq_true_eq] at h;obtain ⟨h1,h2,h3,h4,h5⟩:=h
 have key:innerR (innerB c)=c:=by
  have hl:=fL 4 c.kid
  have hd:(innerB c).drop 4=UInt8.ofNat c.key.length::c.key:=by unfold innerB;rw [List.drop_append_of_le_length (by omega),List.drop_of_length_le (by omega)];rfl
  have ht:(innerB c).take 4=fixN 4 c.kid:=by unfold innerB;rw [List.take_append_of_le_length (by omega),List.take_of_length_le (by omega)]
  unfold innerR;rw [hd,ht,numN_fixN 4 c.kid (by have:=hf.2;simpa using this)];obtain ⟨key,size,val,over,kid⟩:=c;simp only at h1 h2 h3 h4 h5 ⊢;rw [u8_of (by omega),List.take_of_length_le (nR _),h3,h4,List.eq_nil_of_length_eq_zero h5]
 unfold innerG;rw [key];simp [h0]
theorem innerG_iff {b:List UInt8} {c:PC} (h:innerG b=some c):innerOK c=true/\innerB c=b/\c.fit:=by
 unfold innerG at h
 split at h
 ·rename_i hh
  cases h
  refine ⟨hh.1,hh.2,?_,?_⟩
  ·show (0:Nat)<_;decide
  ·show numN (b.take 4)<_;have:=numN_lt (b.take 4)
   have hl:(b.take 4).length<=4:=by rw [lK];omega
   exact lT this (Nat.pow_le_pow_right (by decide) hl)
 ·cases h
end
end Go.Proofs.YtenfkghoolegfaaGreatDoor
namespace Go.Proofs.YtenfkghoolegfaaGreatDoor
def sumL (l:List (List UInt8)):Nat:=(l.map List.length).sum
def dirL:Nat->List (List UInt8)->List UInt8
 | _,[]=>[]
 | top,c::l=>UInt8.ofNat (top-c.length)::UInt8.ofNat c.length::dirL (top-c.length) l
def revL (l:List (List UInt8)):List UInt8:=l.reverse.flatten
def bodyS (l:List (List UInt8)):List UInt8 :=
 UInt8.ofNat l.length::UInt8.ofNat (243-sumL l)::(dirL 243 l++(List.replicate (243-sumL l-(2+2*l.length)) 0++revL l))
theorem sumL_snoc (l:List (List UInt8)) (c:List UInt8):sumL (l++[c])=sumL l+c.length:=by simp [sumL]
theorem sumL_cons (l:List (List UInt8)) (c:List UInt8):sumL (c::l)=c.length+sumL l:=by simp [sumL]
theorem dirL_len:∀ (t:Nat) (l:List (List UInt8)),(dirL t l).length=2*l.length
 | _,[]=>rfl
 | t,c::l=>by simp [dirL,dirL_len];omega
theorem revL_len (l:List (List UInt8)):(revL l).length=sumL l:=by
 unfold revL sumL;rw [List.length_flatten,List.map_reverse,List.sum_reverse]
theorem revL_snoc (l:List (List UInt8)) (c:List UInt8):revL (l++[c])=c++revL l:=by simp [revL]
theorem dirL_snoc:∀ (t:Nat) (l:List (List UInt8)) (c:List UInt8),dirL t (l++[c])=dirL t l++[UInt8.ofNat (t-sumL l-c.length),UInt8.ofNat c.length]
 | t,[],c=>by simp [dirL,sumL]
 | t,d::l,c=>by
  rw [List.cons_append,dirL,dirL_snoc,dirL,sumL_cons,show t-(d.length+sumL l)-c.length=t-d.length-sumL l-c.length by omega];rfl
theorem bodyS_len {l:List (List UInt8)} (h:2+2*l.length+sumL l<=243):(bodyS l).length=243:=by
 unfold bodyS;rw [List.length_cons,List.length_cons,lQ,lQ,dirL_len,List.length_replicate,revL_len];omega
def atS (b:List UInt8) (i:Nat):Nat:=(b.getD (2+2*i) 0).toNat
def lnS (b:List UInt8) (i:Nat):Nat:=(b.getD (3+2*i) 0).toNat
def cellS (b:List UInt8) (i:Nat):List UInt8:=(b.drop (atS b i)).take (lnS b i)
def takS (t:Nat->Bool) (a n:Nat):Nat->Bool:=fun j=>t j || (decide (a<=j) && decide (j<a+n))
def freeS (t:Nat->Bool) (a n:Nat):Bool:=(List.range n).all fun k=>!t (a+k)
def inS (b:List UInt8):Nat->Nat->(Nat->Bool)->Bool
 | 0,_,_=>true
 | k+1,i,t=>decide ((b.getD 1 0).toNat<=atS b i) && decide (atS b i+lnS b i<=243) && decide (lnS b i<=78) && freeS t (atS b i) (lnS b i) && inS b k (i+1) (takS t (atS b i) (lnS b i))
def parseS (b:List UInt8):Option (List (List UInt8)) :=
 if b.length=243/\2+2*(b.getD 0 0).toNat<=243/\2+2*(b.getD 0 0).toNat<=(b.getD 1 0).toNat/\(b.getD 1 0).toNat<=243/\inS b (b.getD 0 0).toNat 0 (fun _=>false)=true
 then some ((List.range (b.getD 0 0).toNat).map (cellS b)) else none
theorem bodyS_get {l:List (List UInt8)} (h:2+2*l.length+sumL l<=243) {i:Nat} {c:List UInt8} {p q:List (List UInt8)} (hl:l=p++c::q) (hi:i=p.length) :
 atS (bodyS l) i=243-sumL p-c.length/\lnS (bodyS l) i=c.length/\cellS (bodyS l) i=c:=by
 subst hl;subst hi
 have hs:sumL (p++c::q)=sumL p+(c.length+sumL q):=by simp [sumL]
 rw [hs,lQ,List.length_cons] at h
 have hd:dirL 243 (p++c::q)=dirL 243 p++(UInt8.ofNat (243-sumL p-c.length)::UInt8.ofNat c.length::dirL (243-sumL p-c.length) q):=by
  have:∀ (t:Nat) (p:List (List UInt8)),dirL t (p++c::q)=dirL t p++(UInt8.ofNat (t-sumL p-c.length)::UInt8.ofNat c.length::dirL (t-sumL p-c.length) q):=by
   intro t p
   induction p generalizing t with
   | nil=>simp [dirL,sumL]
   | cons d p ih =>
    rw [List.cons_append,dirL,ih,dirL,sumL_cons,show t-(d.length+sumL p)-c.length=t-d.length-sumL p-c.length by omega];rfl
  exact this 243 p
 have h1:(bodyS (p++c::q)).getD (2+2*p.length) 0=UInt8.ofNat (243-sumL p-c.length):=by
  unfold bodyS;rw [hd,show 2+2*p.length=2*p.length+1+1 by omega,List.getD_cons_succ,List.getD_cons_succ,List.getD_eq_getElem?_getD,List.append_assoc,List.getElem?_append_right (by rw [dirL_len];omega),dirL_len,Nat.sub_self];rfl
 have h2:(bodyS (p++c::q)).getD (3+2*p.length) 0=UInt8.ofNat c.length:=by
  unfold bodyS;rw [hd,show 3+2*p.length=2*p.length+1+1+1 by omega,List.getD_cons_succ,List.getD_cons_succ,List.getD_eq_getElem?_getD,List.append_assoc,List.getElem?_append_right (by rw [dirL_len];omega),dirL_len,show 2*p.length+1-2*p.length=1 by omega];rfl
 have ha:atS (bodyS (p++c::q)) p.length=243-sumL p-c.length:=by unfold atS;rw [h1,u8_of (by omega)]
 have hn:lnS (bodyS (p++c::q)) p.length=c.length:=by unfold lnS;rw [h2,u8_of (by omega)]
 refine ⟨ha,hn,?_⟩;unfold cellS;rw [ha,hn]
 have hr:revL (p++c::q)=revL q++(c++revL p):=by simp [revL,List.reverse_append,List.flatten_append,List.append_assoc]
 have hb:∃ u,bodyS (p++c::q)=u++(c++revL p)/\u.length=243-sumL p-c.length:=by
  refine ⟨UInt8.ofNat (p++c::q).length::UInt8.ofNat (243-sumL (p++c::q))::(dirL 243 (p++c::q)++(List.replicate (243-sumL (p++c::q)-(2+2*(p++c::q).length)) 0++revL q)),?_,?_⟩
  ·unfold bodyS;rw [hr];simp only [List.append_assoc,List.cons_append]
  ·rw [List.length_cons,List.length_cons,lQ,lQ,dirL_len,List.length_replicate,revL_len,hs,lQ,List.length_cons];omega
 obtain ⟨u,hu,hul⟩:=hb;rw [hu,List.drop_append_of_le_length (by omega),List.drop_of_length_le (by omega),List.nil_append,List.take_append_of_le_length (by omega),List.take_of_length_le (by omega)]
theorem inS_body {l:List (List UInt8)} (h:2+2*l.length+sumL l<=243) (h78:∀ c∈l,c.length<=78):∀ (q p:List (List UInt8)) (t:Nat->Bool),l=p++q->(∀ j,j<243-sumL p->t j=false)->inS (bodyS l) q.length p.length t=true
 | [],_,_,_,_=>rfl
 | c::q,p,t,hl,ht=>by
  obtain ⟨e1,e2,e3⟩:=bodyS_get h hl rfl
  have hs:sumL l=sumL p+(c.length+sumL q):=by rw [hl];simp [sumL]
  have hlen:l.length=p.length+(q.length+1):=by rw [hl];simp
  have htop:((bodyS l).getD 1 0).toNat=243-sumL l:=by
   show (UInt8.ofNat (243-sumL l)).toNat=_;exact u8_of (by omega)
  have hc:=h78 c (by rw [hl];simp)
  have ih:=inS_body h h78 q (p++[c]) (takS t (243-sumL p-c.length) c.length) (by rw [hl];simp) (fun j hj=>by
   rw [sumL_snoc] at hj;unfold takS;rw [ht j (by omega),show decide (243-sumL p-c.length<=j)=false from dF (by omega)]
   rfl)
  rw [lQ,List.length_singleton] at ih;rw [List.length_cons,inS,e1,e2,htop,ih]
  have hf:freeS t (243-sumL p-c.length) c.length=true:=by
   unfold freeS;rw [List.all_eq_true];intro k hk;rw [List.mem_range] at hk;rw [ht _ (by omega)];rfl
  rw [hf];simp;omega
theorem parseS_body {l:List (List UInt8)} (h:2+2*l.length+sumL l<=243) (h78:∀ c∈l,c.length<=78):parseS (bodyS l)=some l:=by
 have h0:((bodyS l).getD 0 0).toNat=l.length:=by
  show (UInt8.ofNat l.length).toNat=_;exact u8_of (by omega)
 have htop:((bodyS l).getD 1 0).toNat=243-sumL l:=by
  show (UInt8.ofNat (243-sumL l)).toNat=_;exact u8_of (by omega)
 unfold parseS;rw [h0,htop,if_pos ⟨bodyS_len h,by omega,by omega,by omega,inS_body h h78 l [] _ rfl (fun _ _=>rfl)⟩];congr 1;refine List.ext_getElem (by simp) fun i h1 h2=>?_;rw [List.getElem_map,List.getElem_range];exact (bodyS_get h (p:=l.take i) (q:=l.drop (i+1)) (c:=l[i]) (by rw [<-List.drop_eq_getElem_cons h2,List.take_append_drop]) (by rw [lK];omega)).2.2
theorem parseS_len {b:List UInt8} {l:List (List UInt8)} (h:parseS b=some l):l.length<=120:=by
 unfold parseS at h
 split at h
 ·cases h;rw [List.length_map,List.length_range];omega
 ·cases h
end Go.Proofs.YtenfkghoolegfaaGreatDoor
namespace Go.Proofs.YtenfkghoolegfaaGreatDoor.Cr
def c4 (tb:Nat->Nat) (c:Nat):Nat:=Nat.xor (Nat.shiftRight c 4) (tb (Nat.land c 15))
def cb (tb:Nat->Nat) (c b:Nat):Nat:=c4 tb (c4 tb (Nat.xor c b))
def cl (tb:Nat->Nat) (c:Nat) (l:List Nat):Nat:=l.foldl (cb tb) c
theorem xor_lt {x y:Nat} (hx:x<4294967296) (hy:y<4294967296):Nat.xor x y<4294967296:=Nat.xor_lt_two_pow (n:=32) hx hy
theorem and_lt {x:Nat}:Nat.land x 15<16:=Nat.lt_of_le_of_lt Nat.and_le_right (by decide)
theorem shr4_lt {x:Nat} (hx:x<4294967296):Nat.shiftRight x 4<4294967296:=by
 have:Nat.shiftRight x 4=x / 16:=Nat.shiftRight_eq_div_pow x 4;omega
theorem c4_lt {tb:Nat->Nat} (htb:∀ i,tb i<4294967296) {x:Nat} (hx:x<4294967296):c4 tb x<4294967296:=xor_lt (shr4_lt hx) (htb _)
theorem cb_lt {tb:Nat->Nat} (htb:∀ i,tb i<4294967296) {x y:Nat} (hx:x<4294967296) (hy:y<256):cb tb x y<4294967296:=c4_lt htb (c4_lt htb (xor_lt hx (by omega)))
theorem take_snocN (l:List Nat) (k:Nat) (h:k<l.length):l.take (k+1)=l.take k++[l[k]?.getD 0]:=by
 rw [List.take_succ_eq_append_getElem h];simp [h]
theorem cl_step (tb:Nat->Nat) (c:Nat) (l:List Nat) (k:Nat) (h:k<l.length):cl tb c (l.take (k+1))=cb tb (cl tb c (l.take k)) (l[k]?.getD 0):=by
 unfold cl;rw [take_snocN l k h,List.foldl_append];rfl
theorem cl_lt {tb:Nat->Nat} (htb:∀ i,tb i<4294967296):∀ (l:List Nat) (c:Nat),c<4294967296->(∀ x∈l,x<256)->cl tb c l<4294967296
 | [],_,hc,_=>hc
 | x::l,c,hc,h=>cl_lt htb l (cb tb c x) (cb_lt htb hc (h x (by simp))) (fun y hy=>h y (by simp [hy]))
def tbNum:Nat:=12749536319551302420830055290731983042906869231766370170184255228463894984119587222357463453493748006886229547019502462691509165827871124329361635492757504
def tbOf (i:Nat):Nat:=Nat.land (Nat.shiftRight tbNum (Nat.mul 32 i)) 4294967295
theorem tbOf_lt (i:Nat):tbOf i<4294967296:=Nat.lt_of_le_of_lt Nat.and_le_right (by decide)
end Go.Proofs.YtenfkghoolegfaaGreatDoor.Cr
namespace Go.Proofs.YtenfkghoolegfaaGreatDoor
section
def crcN (b:List UInt8):Nat:=4294967295-Cr.cl Cr.tbOf 4294967295 (b.map UInt8.toNat)
theorem crcN_lt (b:List UInt8):crcN b<4294967296:=by unfold crcN;omega
def putC (b:List UInt8):List UInt8:=b++fixN 4 (crcN b)
def checkC (b:List UInt8):Bool:=decide (4<=b.length/\crcN (b.take (b.length-4))=numN (b.drop (b.length-4)))
theorem putC_len (b:List UInt8):(putC b).length=b.length+4:=by unfold putC;rw [lQ,fL]
theorem checkC_putC (b:List UInt8):checkC (putC b)=true:=by
 unfold checkC;rw [putC_len,show b.length+4-4=b.length by omega];unfold putC;rw [List.take_append_of_le_length (nR _),List.take_of_length_le (nR _),List.drop_append_of_le_length (nR _),List.drop_of_length_le (nR _),List.nil_append,numN_fixN 4 _ (by have:=crcN_lt b;simpa using this)];simp
theorem putC_check {b:List UInt8} (h:checkC b=true):putC (b.take (b.length-4))=b:=by
 unfold checkC at h;rw [decide_eq_true_eq] at h;unfold putC;rw [h.2]
 have hl:(b.drop (b.length-4)).length=4:=by rw [lD];omega
 have:=fixN_numN (b.drop (b.length-4));rw [hl] at this;rw [this,List.take_append_drop]
def sealB (kind:Nat) (lsn:Nat) (body:List UInt8):List UInt8:=putC (UInt8.ofNat kind::(fixN 8 lsn++body))
def openE (b:List UInt8):Int:=if b.length≠256 then 50 else if checkC b=false then 51 else if 1<=(b.getD 0 0).toNat/\(b.getD 0 0).toNat<=5 then 0 else 50
def kindB (b:List UInt8):Nat:=(b.getD 0 0).toNat
def lsnB (b:List UInt8):Nat:=numN ((b.drop 1).take 8)
def restB (b:List UInt8):List UInt8:=(b.drop 9).take 243
theorem open_seal {kind lsn:Nat} {body:List UInt8} (hk:1<=kind/\kind<=5) (hl:lsn<18446744073709551616) (hb:body.length=243) :
 openE (sealB kind lsn body)=0/\kindB (sealB kind lsn body)=kind/\lsnB (sealB kind lsn body)=lsn/\restB (sealB kind lsn body)=body:=by
 have hlen:(sealB kind lsn body).length=256:=by unfold sealB;rw [putC_len,List.length_cons,lQ,fL];omega
 have hk0:(sealB kind lsn body).getD 0 0=UInt8.ofNat kind:=rfl
 have hd1:(sealB kind lsn body).drop 1=fixN 8 lsn++(body++fixN 4 (crcN (UInt8.ofNat kind::(fixN 8 lsn++body)))):=by
  unfold sealB putC;rw [List.cons_append,List.drop_succ_cons,List.drop_zero,List.append_assoc]
 have h8:=fL 8 lsn;refine ⟨?_,?_,?_,?_⟩
 ·unfold openE;rw [hlen,hk0,u8_of (by omega),if_neg (by simp),show checkC (sealB kind lsn body)=true from checkC_putC _,if_neg (by simp),if_pos hk]
 ·unfold kindB;rw [hk0,u8_of (by omega)]
 ·unfold lsnB;rw [hd1,List.take_append_of_le_length (by omega),List.take_of_length_le (by omega),numN_fixN 8 lsn (by simpa using hl)]
 ·unfold restB;rw [show (9:Nat)=1+8 from rfl,<-List.drop_drop,hd1,List.drop_append_of_le_length (by omega),List.drop_of_length_le (by omega),List.nil_append,List.take_append_of_le_length (by omega),List.take_of_length_le (by omega)]
theorem seal_open {b:List UInt8} (h:openE b=0):sealB (kindB b) (lsnB b) (restB b)=b/\b.length=256/\1<=kindB b/\kindB b<=5/\(restB b).length=243/\lsnB b<18446744073709551616:=by
 unfold openE at h
 split at h
 ·cases h
 rename_i h1;have h1:b.length=256:=Decidable.not_not.1 h1
 split at h
 ·cases h
 rename_i h2
 have h2:checkC b=true:=by simpa using h2
 split at h
 ·rename_i h3;have hp:=putC_check h2;rw [h1] at hp;refine ⟨?_,h1,h3.1,h3.2,?_,?_⟩
  ·unfold sealB kindB lsnB restB;rw [u8_id]
   have h8:((b.drop 1).take 8).length=8:=by rw [lK,lD];omega
   have:=fixN_numN ((b.drop 1).take 8);rw [h8] at this;rw [this];refine Eq.trans (congrArg putC ?_) hp
   match b,h1 with
   | c::r,h1 =>
    show c::((r.take 8)++((r.drop 8).take 243))=(c::r).take 252;rw [List.take_succ_cons,show (251:Nat)=8+243 from rfl,List.take_add]
  ·unfold restB;rw [lK,lD];omega
  ·unfold lsnB;have:=numN_lt ((b.drop 1).take 8);refine lT this ?_
   have:((b.drop 1).take 8).length<=8:=by rw [lK];omega
   exact nT (Nat.pow_le_pow_right (by decide) this) (by decide)
 ·cases h
structure PN where
 kind:Int
 lsn:Nat
 cells:List PC
 next:Nat
 data:List UInt8
 root:Nat
 pages:Nat
 free:Nat
 entries:Nat
def cellB (kind:Int) (c:PC):List UInt8:=if kind=3 then leafB c else innerB c
def cellOK (kind:Int) (c:PC):Bool:=if kind=3 then leafOK c else innerOK c
def cellG (kind:Int) (b:List UInt8):Option PC:=if kind=3 then leafG b else innerG b
def riseK:List PC->Bool
 | a::b::l=>decide (a.key<b.key) && riseK (b::l)
 | _=>true
def headOK (n:PN):Bool:=decide (2<=n.pages/\n.pages<=512/\1<=n.root/\n.root<n.pages/\n.free<n.pages)
def plainOK (n:PN):Bool :=
 decide ((n.kind=1\/(n.root=0/\n.pages=0/\n.free=0/\n.entries=0))/\((n.kind=3\/n.kind=2)\/n.cells.length=0)/\(n.kind=4\/n.data.length=0)/\((n.kind=4\/n.kind=5)\/n.next=0))
def nodeOK (n:PN):Bool:=plainOK n && (
 if n.kind=1 then headOK n
 else if n.kind=4 then decide (1<=n.data.length/\n.data.length<=238)
 else if n.kind=5 then true
 else if n.kind=2 then decide (n.cells.length≠0) && (n.cells.all innerOK && riseK n.cells)
 else if n.kind=3 then n.cells.all leafOK && riseK n.cells
 else false)
def padB (b:List UInt8):List UInt8:=b++List.replicate (243-b.length) 0
def magicB:List UInt8:=[83,67,79,87,49]
def bodyN (n:PN):List UInt8 :=
 if n.kind=1 then padB (magicB++(fixN 4 n.root++(fixN 4 n.pages++(fixN 4 n.free++fixN 8 n.entries))))
 else if n.kind=4 then padB (fixN 4 n.next++(UInt8.ofNat n.data.length::n.data))
 else if n.kind=5 then padB (fixN 4 n.next)
 else bodyS (n.cells.map (cellB n.kind))
def usedN (kind:Int) (l:List PC):Nat:=(l.map fun c=>2+(cellB kind c).length).sum
def putE (n:PN):Int:=if nodeOK n=false then 80 else if (n.kind=2\/n.kind=3)/\241<usedN n.kind n.cells then 60 else 0
def putP (n:PN):List UInt8:=sealB n.kind.toNat n.lsn (bodyN n)
def cellsG (kind:Int):List (List UInt8)->Option (List PC)
 | []=>some []
 | b::l=>match cellG kind b with
  | none=>none
  | some c=>match cellsG kind l with
   | none=>none
   | some r=>some (c::r)
def readPg (kind:Nat) (lsn:Nat) (b:List UInt8):Option PN :=
 if kind=1 then
  let n:PN:=⟨1,lsn,[],0,[],numN ((b.drop 5).take 4),numN ((b.drop 9).take 4),numN ((b.drop 13).take 4),numN ((b.drop 17).take 8)⟩
  if bodyN n=b then some n else none
 else if kind=4 then
  let n:PN:=⟨4,lsn,[],numN (b.take 4),((b.drop 5).take (min (5+(b.getD 4 0).toNat) b.length-5)),0,0,0,0⟩
  if bodyN n=b then some n else none
 else if kind=5 then
  let n:PN:=⟨5,lsn,[],numN (b.take 4),[],0,0,0,0⟩
  if bodyN n=b then some n else none
 else match parseS b with
  | none=>none
  | some l=>match cellsG kind l with
   | none=>none
   | some c=>some ⟨kind,lsn,c,0,[],0,0,0,0⟩
def getP (b:List UInt8):Except Int PN :=
 if openE b≠0 then .error (openE b) else match readPg (kindB b) (lsnB b) (restB b) with
  | none=>.error 80
  | some n=>if nodeOK n=true then .ok n else .error 80
end
section
structure PN.Fit (n:PN):Prop where
 lsn:n.lsn<18446744073709551616
 next:n.next<4294967296
 root:n.root<4294967296
 pages:n.pages<4294967296
 free:n.free<4294967296
 entries:n.entries<18446744073709551616
 cells:∀ c∈n.cells,c.fit
theorem usedN_sum (kind:Int):∀ l:List PC,usedN kind l=2*l.length+sumL (l.map (cellB kind))
 | []=>rfl
 | c::l=>by
  have:=usedN_sum kind l;unfold usedN at this ⊢;rw [List.map_cons,List.sum_cons,this,List.map_cons,sumL_cons,List.length_cons];omega
theorem cellB_78 {kind:Int} {c:PC} (h:cellOK kind c=true):(cellB kind c).length<=78/\3<=(cellB kind c).length:=by
 unfold cellOK at h;unfold cellB
 split at h
 ·rename_i hk;rw [if_pos hk];have:=leafB_len h;omega
 ·rename_i hk;rw [if_neg hk];have:=innerB_len h;omega
theorem cellsG_B {kind:Int}:∀ l:List PC,(∀ c∈l,cellOK kind c=true/\c.fit)->cellsG kind (l.map (cellB kind))=some l
 | [],_=>rfl
 | c::l,h=>by
  have h1:=h c (by simp)
  have hc:cellG kind (cellB kind c)=some c:=by
   unfold cellG cellB;have h0:=h1.1;unfold cellOK at h0
   split at h0
   ·rename_i hk;rw [if_pos hk,if_pos hk];exact leafG_B h0 h1.2
   ·rename_i hk;rw [if_neg hk,if_neg hk];exact innerG_B h0 h1.2
  rw [List.map_cons,cellsG,hc,cellsG_B l fun x hx=>h x (by simp [hx])]
theorem drop_app {α:Type} {a b:List α} {n:Nat} (h:a.length=n):(a++b).drop n=b:=by
 rw [List.drop_append_of_le_length (by omega),List.drop_of_length_le (by omega),List.nil_append]
theorem take_app {α:Type} {a b:List α} {n:Nat} (h:a.length=n):(a++b).take n=a:=by
 rw [List.take_append_of_le_length (by omega),List.take_of_length_le (by omega)]
theorem nodeOK_plain {n:PN} (h:nodeOK n=true):plainOK n=true:=by
 unfold nodeOK at h;rw [Bool.and_eq_true] at h;exact h.1
theorem nodeOK_kind {n:PN} (h:nodeOK n=true):n.kind=1\/n.kind=4\/n.kind=5\/n.kind=2\/n.kind=3:=by
 unfold nodeOK at h;rw [Bool.and_eq_true] at h;have h:=h.2;by_cases h1:n.kind=1
 ·exact .inl h1
 by_cases h2:n.kind=4
 ·exact .inr (.inl h2)
 by_cases h3:n.kind=5
 ·exact .inr (.inr (.inl h3))
 by_cases h4:n.kind=2
 ·exact .inr (.inr (.inr (.inl h4)))
 by_cases h5:n.kind=3
 ·exact .inr (.inr (.inr (.inr h5)))
 ·rw [if_neg h1,if_neg h2,if_neg h3,if_neg h4,if_neg h5] at h
  cases h
theorem nodeOK_cells {n:PN} (h:nodeOK n=true):∀ c∈n.cells,cellOK n.kind c=true:=by
 have hp:=nodeOK_plain h;unfold nodeOK at h;rw [Bool.and_eq_true] at h;have h:=h.2;unfold plainOK at hp;rw [decide_eq_true_eq] at hp;unfold cellOK;by_cases h3:n.kind=3
 ·rw [if_neg (by omega),if_neg (by omega),if_neg (by omega),if_neg (by omega),if_pos h3,Bool.and_eq_true,List.all_eq_true] at h;intro c hc;rw [if_pos h3];exact h.1 c hc
 ·by_cases h2:n.kind=2
  ·rw [if_neg (by omega),if_neg (by omega),if_neg (by omega),if_pos h2,Bool.and_eq_true,Bool.and_eq_true,List.all_eq_true] at h;intro c hc;rw [if_neg h3];exact h.2.1 c hc
  ·have hc:=List.eq_nil_of_length_eq_zero (hp.2.1.resolve_left (by omega));intro c h';rw [hc] at h'
   cases h'
theorem nodeOK_1 {n:PN} (h:nodeOK n=true) (k:n.kind=1):headOK n=true/\n.cells=[]/\n.data=[]/\n.next=0:=by
 have hp:=nodeOK_plain h;unfold nodeOK at h;unfold plainOK at hp;rw [decide_eq_true_eq] at hp;rw [Bool.and_eq_true,if_pos k] at h;exact ⟨h.2,List.eq_nil_of_length_eq_zero (hp.2.1.resolve_left (by omega)),List.eq_nil_of_length_eq_zero (hp.2.2.1.resolve_left (by omega)),hp.2.2.2.resolve_left (by omega)⟩
theorem nodeOK_4 {n:PN} (h:nodeOK n=true) (k:n.kind=4):(1<=n.data.length/\n.data.length<=238)/\n.cells=[]/\n.root=0/\n.pages=0/\n.free=0/\n.entries=0:=by
 have hp:=nodeOK_plain h;unfold nodeOK at h;unfold plainOK at hp;rw [decide_eq_true_eq] at hp;rw [Bool.and_eq_true,if_neg (by omega),if_pos k,decide_eq_true_eq] at h;exact ⟨h.2,List.eq_nil_of_length_eq_zero (hp.2.1.resolve_left (by omega)),hp.1.resolve_left (by omega)⟩
theorem nodeOK_5 {n:PN} (h:nodeOK n=true) (k:n.kind=5):n.cells=[]/\n.data=[]/\n.root=0/\n.pages=0/\n.free=0/\n.entries=0:=by
 have hp:=nodeOK_plain h;unfold plainOK at hp;rw [decide_eq_true_eq] at hp;exact ⟨List.eq_nil_of_length_eq_zero (hp.2.1.resolve_left (by omega)),List.eq_nil_of_length_eq_zero (hp.2.2.1.resolve_left (by omega)),hp.1.resolve_left (by omega)⟩
theorem nodeOK_c {n:PN} (h:nodeOK n=true) (k:n.kind=2\/n.kind=3):(n.kind=2->n.cells.length≠0)/\riseK n.cells=true/\n.data=[]/\n.next=0/\n.root=0/\n.pages=0/\n.free=0/\n.entries=0:=by
 have hp:=nodeOK_plain h;unfold nodeOK at h;unfold plainOK at hp;rw [decide_eq_true_eq] at hp;rw [Bool.and_eq_true,if_neg (by omega),if_neg (by omega),if_neg (by omega)] at h;refine ⟨?_,?_,List.eq_nil_of_length_eq_zero (hp.2.2.1.resolve_left (by omega)),hp.2.2.2.resolve_left (by omega),hp.1.resolve_left (by omega)⟩
 ·intro k2;rw [if_pos k2,Bool.and_eq_true,decide_eq_true_eq] at h;exact h.2.1
 ·by_cases k2:n.kind=2
  ·rw [if_pos k2,Bool.and_eq_true,Bool.and_eq_true] at h;exact h.2.2.2
  ·rw [if_neg k2,if_pos (by omega),Bool.and_eq_true] at h;exact h.2.2
theorem putE_ok {n:PN} (h:putE n=0):nodeOK n=true/\(n.kind=2\/n.kind=3->2+2*n.cells.length+sumL (n.cells.map (cellB n.kind))<=243):=by
 unfold putE at h
 split at h
 ·cases h
 rename_i h1
 split at h
 ·cases h
 rename_i h2;refine ⟨by simpa using h1,fun hc=>?_⟩;have:=usedN_sum n.kind n.cells;have h3:¬ 241<usedN n.kind n.cells:=fun hh=>h2 ⟨hc,hh⟩;omega
theorem body_1 {n:PN} (k:n.kind=1):bodyN n=magicB++(fixN 4 n.root++(fixN 4 n.pages++(fixN 4 n.free++(fixN 8 n.entries++List.replicate 218 0)))):=by
 unfold bodyN padB;rw [if_pos k];simp [fL,magicB]
theorem body_4 {n:PN} (k:n.kind=4):bodyN n=fixN 4 n.next++(UInt8.ofNat n.data.length::(n.data++List.replicate (238-n.data.length) 0)):=by
 unfold bodyN padB;rw [if_neg (by omega),if_pos k,List.append_assoc,List.cons_append,lQ,List.length_cons,fL];congr 4;omega
theorem body_5 {n:PN} (k:n.kind=5):bodyN n=fixN 4 n.next++List.replicate 239 0:=by
 unfold bodyN padB;rw [if_neg (by omega),if_neg (by omega),if_pos k,fL]
theorem body_c {n:PN} (k:n.kind=2\/n.kind=3):bodyN n=bodyS (n.cells.map (cellB n.kind)):=by
 unfold bodyN;rw [if_neg (by omega),if_neg (by omega),if_neg (by omega)]
theorem body_len {n:PN} (h:putE n=0):(bodyN n).length=243:=by
 obtain ⟨h1,hs⟩:=putE_ok h
 rcases nodeOK_kind h1 with k | k | k | k
 ·rw [body_1 k];simp only [lQ,fL,List.length_replicate];rfl
 ·rw [body_4 k];have:=(nodeOK_4 h1 k).1;simp only [lQ,List.length_cons,fL,List.length_replicate];omega
 ·rw [body_5 k];simp only [lQ,fL,List.length_replicate]
 ·rw [body_c k];exact bodyS_len (by rw [List.length_map];exact hs k)
theorem mk_eq (n:PN) {kind:Int} {lsn:Nat} {cells:List PC} {next:Nat} {data:List UInt8} {root pages free entries:Nat} (h1:n.kind=kind) (h2:n.lsn=lsn) (h3:n.cells=cells) (h4:n.next=next) (h5:n.data=data)
 (h6:n.root=root) (h7:n.pages=pages) (h8:n.free=free) (h9:n.entries=entries):(⟨kind,lsn,cells,next,data,root,pages,free,entries⟩:PN)=n:=by
 subst h1;subst h2;subst h3;subst h4;subst h5;subst h6;subst h7;subst h8;subst h9;rfl
theorem readPg_put {n:PN} (h:putE n=0) (hf:n.Fit):readPg n.kind.toNat n.lsn (bodyN n)=some n:=by
 obtain ⟨h1,hs⟩:=putE_ok h;have f4:∀ m,(fixN 4 m).length=4:=fL 4;have f8:∀ m,(fixN 8 m).length=8:=fL 8;have g4:∀ m,m<4294967296->numN (fixN 4 m)=m:=fun m hm=>numN_fixN 4 m (by simpa using hm);have g8:∀ m,m<18446744073709551616->numN (fixN 8 m)=m:=fun m hm=>numN_fixN 8 m (by simpa using hm)
 rcases nodeOK_kind h1 with k | k | k | k
 ·obtain ⟨_,hc,hd,hn⟩:=nodeOK_1 h1 k;have hb:=body_1 k
  have e5:(bodyN n).drop 5=fixN 4 n.root++(fixN 4 n.pages++(fixN 4 n.free++(fixN 8 n.entries++List.replicate 218 0))):=by rw [hb];exact drop_app rfl
  have e9:(bodyN n).drop 9=fixN 4 n.pages++(fixN 4 n.free++(fixN 8 n.entries++List.replicate 218 0)):=by rw [show (9:Nat)=5+4 from rfl,<-List.drop_drop,e5];exact drop_app (f4 _)
  have e13:(bodyN n).drop 13=fixN 4 n.free++(fixN 8 n.entries++List.replicate 218 0):=by rw [show (13:Nat)=9+4 from rfl,<-List.drop_drop,e9];exact drop_app (f4 _)
  have e17:(bodyN n).drop 17=fixN 8 n.entries++List.replicate 218 0:=by rw [show (17:Nat)=13+4 from rfl,<-List.drop_drop,e13];exact drop_app (f4 _)
  unfold readPg;rw [if_pos (by omega),e5,e9,e13,e17,take_app (f4 _),take_app (f4 _),take_app (f4 _),take_app (f8 _),g4 _ hf.root,g4 _ hf.pages,g4 _ hf.free,g8 _ hf.entries];simp only [mk_eq n k rfl hc hn hd rfl rfl rfl rfl];rw [if_pos trivial]
 ·obtain ⟨hl,hc,h6,h7,h8,h9⟩:=nodeOK_4 h1 k;have hb:=body_4 k
  have e4:(bodyN n).getD 4 0=UInt8.ofNat n.data.length:=by
   rw [hb,List.getD_eq_getElem?_getD,List.getElem?_append_right (by rw [f4];omega),f4];rfl
  have e5:(bodyN n).drop 5=n.data++List.replicate (238-n.data.length) 0:=by
   rw [hb,show (5:Nat)=4+1 from rfl,<-List.drop_drop,drop_app (f4 _),List.drop_succ_cons,List.drop_zero]
  have hbl:=body_len h;unfold readPg;rw [if_neg (by omega),if_pos (by omega),e4,e5,u8_of (by omega),hbl,show min (5+n.data.length) 243-5=n.data.length by omega,take_app rfl];rw [show (bodyN n).take 4=fixN 4 n.next by rw [hb];exact take_app (f4 _),g4 _ hf.next];simp only [mk_eq n k rfl hc rfl rfl h6 h7 h8 h9];rw [if_pos trivial]
 ·obtain ⟨hc,hd,h6,h7,h8,h9⟩:=nodeOK_5 h1 k;have hb:=body_5 k;unfold readPg;rw [if_neg (by omega),if_neg (by omega),if_pos (by omega)];rw [show (bodyN n).take 4=fixN 4 n.next by rw [hb];exact take_app (f4 _),g4 _ hf.next];simp only [mk_eq n k rfl hc rfl hd h6 h7 h8 h9];rw [if_pos trivial]
 ·obtain ⟨_,_,hd,hn,h6,h7,h8,h9⟩:=nodeOK_c h1 k;have hcs:=nodeOK_cells h1;unfold readPg
  rw [if_neg (by omega),if_neg (by omega),if_neg (by omega),body_c k,parseS_body (by rw [List.length_map];exact hs k) (fun c hc=>by
   obtain ⟨x,hx,rfl⟩:=List.mem_map.1 hc
   exact (cellB_78 (hcs x hx)).1)]
  have e:((n.kind.toNat:Nat):Int)=n.kind:=by omega
  simp only [e];rw [cellsG_B n.cells fun c hc=>⟨hcs c hc,hf.cells c hc⟩];simp only [mk_eq n rfl rfl rfl hn hd h6 h7 h8 h9]
theorem get_putND {n:PN} (h:putE n=0) (hf:n.Fit):getP (putP n)=.ok n/\(putP n).length=256:=by
 obtain ⟨h1,hs⟩:=putE_ok h;have hk:=nodeOK_kind h1;have hbl:=body_len h;obtain ⟨e1,e2,e3,e4⟩:=open_seal (kind:=n.kind.toNat) (by omega) hf.lsn hbl;refine ⟨?_,?_⟩
 ·unfold getP putP;rw [e1,e2,e3,e4,readPg_put h hf];simp [h1]
 ·unfold putP sealB;rw [putC_len,List.length_cons,lQ,fL];omega
end
section
abbrev Over:=List (Nat × List UInt8)
def lookO (n:Nat):Over->Option (List UInt8)
 | []=>none
 | (k,b)::l=>if k=n then some b else lookO n l
def setO (n:Nat) (b:List UInt8):Over->Over
 | []=>[(n,b)]
 | (k,c)::l=>if k=n then (k,b)::l else (k,c)::setO n b l
theorem lookO_setO (n m:Nat) (b:List UInt8):∀ l:Over,lookO m (setO n b l)=if n=m then some b else lookO m l
 | []=>by simp [setO,lookO]
 | (k,c)::l=>by
  unfold setO;by_cases h:k=n
  ·rw [if_pos h];subst h;unfold lookO;by_cases h2:k=m
   ·rw [if_pos h2,if_pos h2]
   ·rw [if_neg h2,if_neg h2,if_neg h2]
  ·rw [if_neg h];unfold lookO;by_cases h2:k=m
   ·rw [if_pos h2,if_pos h2,if_neg (by omega)]
   ·rw [if_neg h2,if_neg h2];exact lookO_setO n m b l
structure PT where
 src:List (List UInt8)
 lsn:Nat
 root:Nat
 pages:Nat
 free:Nat
 entries:Nat
 over:Over
 changed:Bool
def PT.head (t:PT):PN:=⟨1,t.lsn,[],0,[],t.root,t.pages,t.free,t.entries⟩
def pageT (t:PT) (n:Nat):Except Int (List UInt8) :=
 if t.pages<=n then .error 7 else match lookO n t.over with
  | some b=>.ok b
  | none=>if n=0/\t.changed=true then .ok (putP t.head) else match t.src[n]? with
   | some b=>.ok b
   | none=>.error 7
def nodeT (t:PT) (n:Nat):Except Int PN:=match pageT t n with
 | .error e=>.error e
 | .ok b=>getP b
def layE (t:PT) (x:PN):Int:=putE {x with lsn:=t.lsn}
def layT (t:PT) (n:Nat) (x:PN):PT:=if layE t x=0 then {t with over:=setO n (putP {x with lsn:=t.lsn}) t.over,changed:=true} else t
def isPageT (t:PT) (n:Nat):Int:=if n=0\/t.pages<=n then 2 else 0
def putE' (t:PT) (n:Nat) (x:PN):Int:=if isPageT t n≠0 then 2 else layE t x
def putT (t:PT) (n:Nat) (x:PN):PT:=if isPageT t n≠0 then t else layT t n x
def allocT (t:PT):Int × Nat × PT :=
 if t.free≠0 then match nodeT t t.free with
  | .error e=>(e,0,t)
  | .ok x=>if x.kind≠5\/t.pages<=x.next then (80,0,t) else (0,t.free,{t with free:=x.next,changed:=true})
 else if 512<=t.pages then (90,0,t)
 else (0,t.pages,{t with pages:=t.pages+1,changed:=true})
def freeN (t:PT):PN:=⟨5,0,[],t.free,[],0,0,0,0⟩
def freeT (t:PT) (n:Nat):Int × PT :=
 if isPageT t n≠0 then (2,t)
 else if layE t (freeN t)≠0 then (layE t (freeN t),t)
 else (0,{layT t n (freeN t) with free:=n})
def rootT (t:PT) (n:Nat):Int × PT:=if isPageT t n≠0 then (2,t) else (0,{t with root:=n,changed:=true})
def countT (t:PT) (by':Int):Int × PT :=
 if by' < -2147483648\/2147483648<by'\/(by'<0/\(t.entries:Int) < -by')\/(0<by'/\18446744073709551615-by'<(t.entries:Int)) then (2,t)
 else (0,{t with entries:=((t.entries:Int)+by').toNat,changed:=true})
def freshN (lsn:Nat):PN:=⟨3,lsn,[],0,[],0,0,0,0⟩
def freshT (lsn:Nat):PT:=⟨[],lsn,1,2,0,0,[(1,putP (freshN lsn))],true⟩
def beginT (src:List (List UInt8)) (lsn:Nat):Except Int PT:=match src[0]? with
 | none=>.error 7
 | some b=>match getP b with
  | .error e=>.error e
  | .ok n=>if n.kind=1 then .ok ⟨src,lsn,n.root,n.pages,n.free,n.entries,[],false⟩ else .error 80
def insO (x:Nat × List UInt8):Over->Over
 | []=>[x]
 | y::l=>if x.1<=y.1 then x::y::l else y::insO x l
def sortO (l:Over):Over:=l.foldr insO []
def changesT (t:PT):Over:=if t.changed=true then (0,match pageT t 0 with
 | .ok b=>b
 | .error _=>[])::sortO t.over else []
structure PT.OK (t:PT):Prop where
 lsn:t.lsn<18446744073709551616
 head:2<=t.pages/\t.pages<=512/\1<=t.root/\t.root<t.pages/\t.free<t.pages
 entries:t.entries<18446744073709551616
 keys:∀ x∈t.over,0<x.1/\x.1<t.pages
 nodup:(t.over.map (·.1)).Nodup
theorem PT.OK.putE {t:PT} (h:t.OK):putE t.head=0:=by
 have hp:plainOK t.head=true:=by
  unfold plainOK PT.head;simp
 have hh:headOK t.head=true:=by
  unfold headOK PT.head;rw [decide_eq_true_eq];exact h.head
 have hn:nodeOK t.head=true:=by
  unfold nodeOK;rw [hp,show t.head.kind=1 from rfl,if_pos rfl,hh];rfl
 unfold Go.Proofs.YtenfkghoolegfaaGreatDoor.putE;rw [hn,if_neg (by simp),if_neg (by rw [show t.head.kind=1 from rfl];omega)]
theorem PT.OK.fit {t:PT} (h:t.OK):t.head.Fit:=by
 have:=h.head;refine ⟨h.lsn,by show 0<_;decide,?_,?_,?_,h.entries,fun c hc=>by cases hc⟩
 ·show t.root<_;omega
 ·show t.pages<_;omega
 ·show t.free<_;omega
theorem setO_keys {n:Nat} {b:List UInt8}:∀ {l:Over} {x:Nat × List UInt8},x∈setO n b l->x=(n,b)\/x∈l
 | [],x,h=>by
  unfold setO at h;simp only [List.mem_singleton] at h;exact .inl h
 | (k,c)::l,x,h=>by
  unfold setO at h
  split at h
  ·rename_i hk;subst hk
   rcases List.mem_cons.1 h with rfl | h
   ·exact .inl rfl
   ·exact .inr (List.mem_cons_of_mem _ h)
  ·rcases List.mem_cons.1 h with rfl | h
   ·exact .inr (List.mem_cons_self ..)
   ·exact (setO_keys h).imp id (List.mem_cons_of_mem _)
theorem setO_map {n:Nat} {b:List UInt8}:∀ {l:Over},(setO n b l).map (·.1)=if n∈l.map (·.1) then l.map (·.1) else l.map (·.1)++[n]
 | []=>by simp [setO]
 | (k,c)::l=>by
  unfold setO;by_cases h:k=n
  ·rw [if_pos h];subst h;simp
  ·rw [if_neg h,List.map_cons,setO_map];by_cases h2:n∈l.map (·.1)
   ·rw [if_pos h2,if_pos (by simp at h2 ⊢;exact .inr h2)];rfl
   ·rw [if_neg h2,if_neg (by simp at h2 ⊢;exact ⟨fun e=>h e.symm,h2⟩)];rfl
theorem setO_nodup {n:Nat} {b:List UInt8} {l:Over} (h:(l.map (·.1)).Nodup):((setO n b l).map (·.1)).Nodup:=by
 rw [setO_map]
 split
 ·exact h
 ·rename_i hn;rw [List.nodup_append];refine ⟨h,by simp,fun a ha c hc e=>?_⟩;simp only [List.mem_singleton] at hc;subst hc;subst e;exact hn ha
theorem layT_ok {t:PT} (h:t.OK) {n:Nat} (hn:0<n/\n<t.pages) (x:PN):(layT t n x).OK:=by
 unfold layT
 split
 ·refine ⟨h.lsn,h.head,h.entries,fun y hy=>?_,setO_nodup h.nodup⟩
  rcases setO_keys hy with rfl | hy
  ·exact hn
  ·exact h.keys y hy
 ·exact h
theorem isPageT_0 {t:PT} {n:Nat} (h:isPageT t n=0):0<n/\n<t.pages:=by
 unfold isPageT at h
 split at h
 ·cases h
 ·omega
theorem putT_ok {t:PT} (h:t.OK) (n:Nat) (x:PN):(putT t n x).OK:=by
 unfold putT
 split
 ·exact h
 ·rename_i hh;exact layT_ok h (isPageT_0 (Decidable.not_not.1 hh)) x
theorem allocT_ok {t:PT} (h:t.OK):(allocT t).2.2.OK:=by
 have h0:=h.head;unfold allocT
 split
 ·split
  ·exact h
  ·split
   ·exact h
   ·rename_i x _ hx;exact ⟨h.lsn,⟨h0.1,h0.2.1,h0.2.2.1,h0.2.2.2.1,by show x.next<t.pages;omega⟩,h.entries,h.keys,h.nodup⟩
 ·split
  ·exact h
  ·exact ⟨h.lsn,⟨by show 2<=t.pages+1;omega,by show t.pages+1<=512;omega,h0.2.2.1,by show t.root<t.pages+1;omega,by show t.free<t.pages+1;omega⟩,h.entries,fun y hy=>by have:=h.keys y hy;exact ⟨this.1,by show y.1<t.pages+1;omega⟩,h.nodup⟩
theorem layT_pages (t:PT) (n:Nat) (x:PN):(layT t n x).pages=t.pages/\(layT t n x).root=t.root/\(layT t n x).free=t.free/\(layT t n x).entries=t.entries/\(layT t n x).lsn=t.lsn/\(layT t n x).src=t.src:=by
 unfold layT
 split <;> exact ⟨rfl,rfl,rfl,rfl,rfl,rfl⟩
theorem freeT_ok {t:PT} (h:t.OK) (n:Nat):(freeT t n).2.OK:=by
 unfold freeT
 split
 ·exact h
 ·rename_i hh;have hp:=isPageT_0 (Decidable.not_not.1 hh)
  split
  ·exact h
  ·have hl:=layT_ok h hp (freeN t);obtain ⟨e1,e2,_⟩:=layT_pages t n (freeN t);refine ⟨hl.lsn,?_,hl.entries,hl.keys,hl.nodup⟩;have:=hl.head;exact ⟨this.1,this.2.1,this.2.2.1,this.2.2.2.1,by show n<(layT t n (freeN t)).pages;omega⟩
theorem rootT_ok {t:PT} (h:t.OK) (n:Nat):(rootT t n).2.OK:=by
 unfold rootT
 split
 ·exact h
 ·rename_i hh;have hp:=isPageT_0 (Decidable.not_not.1 hh);exact ⟨h.lsn,⟨h.head.1,h.head.2.1,hp.1,hp.2,h.head.2.2.2.2⟩,h.entries,h.keys,h.nodup⟩
theorem countT_ok {t:PT} (h:t.OK) (k:Int):(countT t k).2.OK:=by
 unfold countT;have:=h.entries
 split
 ·exact h
 ·exact ⟨h.lsn,h.head,by show ((t.entries:Int)+k).toNat<_;omega,h.keys,h.nodup⟩
theorem freshT_ok {lsn:Nat} (h:lsn<18446744073709551616):(freshT lsn).OK :=
 ⟨h,(by decide:2<=2/\2<=512/\1<=1/\1<2/\0<2),(by decide:0<18446744073709551616),fun x hx=>by
  simp only [freshT,List.mem_singleton] at hx;subst hx
  exact ⟨(by decide:0<1),(by decide:1<2)⟩,by simp [freshT]⟩
end
section
def freePg (lsn next:Nat):PN:=⟨5,lsn,[],next,[],0,0,0,0⟩
theorem freePg_put (lsn next:Nat):putE (freePg lsn next)=0:=by
 unfold putE
 have h:nodeOK (freePg lsn next)=true:=by unfold nodeOK plainOK freePg;simp
 rw [h,if_neg (by simp),if_neg (by rw [show (freePg lsn next).kind=5 from rfl];omega)]
theorem freePg_fit {lsn next:Nat} (h:lsn<18446744073709551616) (h2:next<4294967296):(freePg lsn next).Fit :=
 ⟨h,h2,(by decide:0<4294967296),(by decide:0<4294967296),(by decide:0<4294967296),(by decide:0<18446744073709551616),fun c hc=>by cases hc⟩
end
section
def overS (p:List (List UInt8)) (n:Nat) (b:List UInt8):List (List UInt8):=(p++List.replicate (n+1-p.length) []).set n b
def overL (p:List (List UInt8)) (l:Over):List (List UInt8):=l.foldl (fun p x=>overS p x.1 x.2) p
theorem overS_get (p:List (List UInt8)) (n m:Nat) (b:List UInt8):(overS p n b)[m]?=if m=n then some b else if m<p.length then p[m]? else if m<n then some [] else none:=by
 unfold overS;rw [List.getElem?_set];by_cases h:n=m
 ·subst h;rw [if_pos rfl,if_pos rfl,if_pos (by rw [lQ,List.length_replicate];omega)]
 ·rw [if_neg h,if_neg (fun e=>h e.symm)];by_cases h1:m<p.length
  ·rw [if_pos h1,List.getElem?_append_left h1]
  ·rw [if_neg h1,List.getElem?_append_right (by omega),List.getElem?_replicate];by_cases h2:m<n
   ·rw [if_pos h2,if_pos (by omega)]
   ·rw [if_neg h2,if_neg (by omega)]
theorem overS_len (p:List (List UInt8)) (n:Nat) (b:List UInt8):(overS p n b).length=max p.length (n+1):=by
 unfold overS;rw [List.length_set,lQ,List.length_replicate];omega
theorem overL_keep:∀ (l:Over) (p:List (List UInt8)) (m:Nat),(∀ x∈l,x.1≠m)->m<p.length->(overL p l)[m]?=p[m]?
 | [],p,m,_,_=>rfl
 | x::l,p,m,h,hm=>by
  show (overL (overS p x.1 x.2) l)[m]?=_;rw [overL_keep l _ m (fun y hy=>h y (by simp [hy])) (by rw [overS_len];omega),overS_get,if_neg (fun e=>h x (by simp) e.symm),if_pos hm]
theorem overL_put:∀ (l:Over) (p:List (List UInt8)) (m:Nat) (b:List UInt8),(m,b)∈l->(l.map (·.1)).Nodup->(overL p l)[m]?=some b
 | x::l,p,m,b,h,hn=>by
  show (overL (overS p x.1 x.2) l)[m]?=_;rw [List.map_cons,List.nodup_cons] at hn
  rcases List.mem_cons.1 h with rfl | h
  ·rw [overL_keep l _ m (fun y hy e=>hn.1 (List.mem_map.2 ⟨y,hy,e⟩)) (by rw [overS_len];simp only;omega),overS_get,if_pos rfl]
  ·exact overL_put l _ m b h hn.2
theorem insO_perm (x:Nat × List UInt8):∀ l:Over,List.Perm (insO x l) (x::l)
 | []=>List.Perm.refl _
 | y::l=>by
  unfold insO
  split
  ·exact List.Perm.refl _
  ·exact ((insO_perm x l).cons y).trans (List.Perm.swap _ _ _)
theorem sortO_perm:∀ l:Over,List.Perm (sortO l) l
 | []=>List.Perm.refl _
 | x::l=>(insO_perm x _).trans ((sortO_perm l).cons x)
theorem lookO_mem:∀ {l:Over} {n:Nat} {b:List UInt8},lookO n l=some b->(n,b)∈l
 | (k,c)::l,n,b,h=>by
  unfold lookO at h
  split at h
  ·rename_i e;cases h;subst e;exact List.mem_cons_self ..
  ·exact List.mem_cons_of_mem _ (lookO_mem h)
theorem lookO_none:∀ {l:Over} {n:Nat},lookO n l=none->∀ x∈l,x.1≠n
 | [],_,_,x,hx=>by cases hx
 | (k,c)::l,n,h,x,hx=>by
  unfold lookO at h
  split at h
  ·cases h
  ·rename_i e
   rcases List.mem_cons.1 hx with rfl | hx
   ·exact e
   ·exact lookO_none h x hx
theorem pageT_0 {t:PT} (h:t.OK) (hc:t.changed=true):pageT t 0=.ok (putP t.head):=by
 have h0:=h.head;unfold pageT;rw [if_neg (by omega)]
 cases hl:lookO 0 t.over with
 | some b=>have:=(h.keys _ (lookO_mem hl)).1;simp at this
 | none=>simp only;rw [if_pos ⟨trivial,hc⟩]
theorem changesT_nodup {t:PT} (h:t.OK):((changesT t).map (·.1)).Nodup:=by
 unfold changesT
 split
 ·rw [List.map_cons,List.nodup_cons];have hp:=(sortO_perm t.over).map (·.1);refine ⟨fun hm=>?_,hp.nodup_iff.2 h.nodup⟩;obtain ⟨x,hx,e⟩:=List.mem_map.1 hm;have:=(h.keys x ((sortO_perm t.over).mem_iff.1 hx)).1;simp only at e;omega
 ·exact List.nodup_nil
theorem changesT_keys {t:PT} (h:t.OK):∀ x∈changesT t,x.1<t.pages:=by
 intro x hx;have h0:=h.head;unfold changesT at hx
 split at hx
 ·rcases List.mem_cons.1 hx with rfl | hx
  ·show 0<t.pages;omega
  ·exact (h.keys x ((sortO_perm t.over).mem_iff.1 hx)).2
 ·cases hx
def PT.told (t:PT):Prop:=t.over≠[]->t.changed=true
theorem layT_told {t:PT} (h:t.told) (n:Nat) (x:PN):(layT t n x).told:=by
 unfold layT
 split
 ·exact fun _=>rfl
 ·exact h
theorem page_over {t:PT} (h:t.OK) (ht:t.told) {n:Nat} {b:List UInt8} (hp:pageT t n=.ok b):(overL t.src (changesT t))[n]?=some b:=by
 unfold pageT at hp
 split at hp
 ·cases hp
 ·split at hp
  ·rename_i c hc
   cases hp
   have hm:=lookO_mem hc;refine overL_put _ _ n b ?_ (changesT_nodup h);unfold changesT;rw [if_pos (ht (List.ne_nil_of_mem hm))];exact List.mem_cons_of_mem _ ((sortO_perm t.over).mem_iff.2 hm)
  ·rename_i hno
   split at hp
   ·rename_i hc
    cases hp
    obtain ⟨rfl,hc⟩:=hc;refine overL_put _ _ 0 _ ?_ (changesT_nodup h);have h0:=pageT_0 h hc;unfold changesT;rw [if_pos hc,h0];exact List.mem_cons_self ..
   ·rename_i hc
    split at hp
    ·rename_i b' hb
     cases hp
     rw [<-hb];refine overL_keep _ _ n (fun x hx e=>?_) (lS.1 hb).1;unfold changesT at hx
     split at hx
     ·rename_i hch
      rcases List.mem_cons.1 hx with rfl | hx
      ·exact hc ⟨e.symm,hch⟩
      ·exact lookO_none hno x ((sortO_perm t.over).mem_iff.1 hx) e
     ·cases hx
    ·cases hp
theorem changesT_0 {t:PT} (h:t.OK) (hc:t.changed=true) (p:List (List UInt8)):(overL p (changesT t))[0]?=some (putP t.head):=by
 refine overL_put _ _ 0 _ ?_ (changesT_nodup h);have h0:=pageT_0 h hc;unfold changesT;rw [if_pos hc,h0];exact List.mem_cons_self ..
theorem begin_over {t:PT} (h:t.OK) (hc:t.changed=true) (p:List (List UInt8)) (lsn:Nat) (hl:lsn<18446744073709551616) :
 beginT (overL p (changesT t)) lsn=.ok ⟨overL p (changesT t),lsn,t.root,t.pages,t.free,t.entries,[],false⟩/\(⟨overL p (changesT t),lsn,t.root,t.pages,t.free,t.entries,[],false⟩:PT).OK /\
  (⟨overL p (changesT t),lsn,t.root,t.pages,t.free,t.entries,[],false⟩:PT).told:=by
 refine ⟨?_,⟨hl,h.head,h.entries,fun x hx=>(by cases hx),List.nodup_nil⟩,fun hh=>absurd rfl hh⟩;unfold beginT;rw [changesT_0 h hc];simp only;rw [(get_putND h.putE h.fit).1];simp only;rw [if_pos (show t.head.kind=1 from rfl)];rfl
theorem putT_told {t:PT} (h:t.told) (n:Nat) (x:PN):(putT t n x).told:=by
 unfold putT
 split
 ·exact h
 ·exact layT_told h n x
theorem allocT_told {t:PT} (h:t.told):(allocT t).2.2.told:=by
 unfold allocT
 split
 ·split
  ·exact h
  ·split
   ·exact h
   ·exact fun _=>rfl
 ·split
  ·exact h
  ·exact fun _=>rfl
theorem freeT_told {t:PT} (h:t.told) (n:Nat):(freeT t n).2.told:=by
 unfold freeT
 split
 ·exact h
 ·split
  ·exact h
  ·exact layT_told h n (freeN t)
theorem rootT_told {t:PT} (h:t.told) (n:Nat):(rootT t n).2.told:=by
 unfold rootT
 split
 ·exact h
 ·exact fun _=>rfl
theorem countT_told {t:PT} (h:t.told) (k:Int):(countT t k).2.told:=by
 unfold countT
 split
 ·exact h
 ·exact fun _=>rfl
end
section
end
end Go.Proofs.YtenfkghoolegfaaGreatDoor
