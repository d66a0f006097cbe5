/- Calls in an empty memory and their answers, as the kernel's evaluator gave them; what stands for the functions, level by level. Printed by memo2.py; that they are so is proved in the texts that name them. -/
import Derived.Test.YtcgfhnndkhkdgaaGreatDoorGnN
import Derived.Test.YtcgfhnndkhkdgaaGreatDoorEyB4
namespace Ey.Gn
set_option maxRecDepth 1000000
noncomputable def lk0 : Nat → ZE := natsZ [] zs
/-- a call of function 63 -/
noncomputable def m0 : Mem := ⟨(.one (.s 138 8655810108946645553474115416784485366954422552130617358358507113557360286723180114587413667193975943618210662407702041508446266189430209680062767543942172337996335178098143022076004228118441932920497788338173787214861576185340614760107335985517458093935228445305104851908647844976671326102457377498749771948371720003352538968190836) (.one (.s 1 10) .nil)), ZH.none, (.li false (.one (.s 11 8655810108946645553474115416784485366954422552130617358358507113557360286723180114587413667193975943618210662407702041508446266189430209680062767543942172337996335178098143022076004228118441932920497788338173787214861576185340614760107335985517458093935228445305104851908647844976671326102457377498749771948371720003352538968190836) (.one (.s 11 109251683167437370040115290267911032421577051280977345212585858365274549856769008851022024227763132746089773439540674263350550111439847543315231205251535165825221158237030859691212434280886293823704489500381838405106168516031055988606795170994632820742600787870210750878648949586704544247528302106603380) (.one (.s 15 1378950106886141152028331573237748909890264825189562979382367457183406440476260276963103976923661596170582012099847632536950838135034389520841445889175552981988726831388307798259158832130900791301921401802615609807062162818372014319976284410649061966986443896223585584902772) (.one (.s 15 4052370151776121161291056741415489367784675262076925108637695829285518194546696358616073398264470419645801869395590147108829086624350339205697365851833829242005584381447617203930445885155704281257165173455818656302344316302128875266931) (.one (.s 15 11908845552134215608709883063214181169612934034504378143091192726694511493643303091371667434329714365154043008536959344941240915260517156015466957129336212313044646209897079324948933420741190181747) (.one (.s 20 34996951678372239553923237036861356187082841147738684768694354123996723485974946819298701182222166094613467205987901361617254820973186296508278549593149175154) (.one (.s 16 93538617406755158696328830805178265503430246586770467697676720321186557251061158318753582087672280862455154) (.one (.s 8 1073770667435234155147750850396123754367667521459209661884935206258) (.one (.s 11 227379783278220890720063406646714961539004787) (.one (.s 6 2869936346653037) (.one (.s 0 0) .nil)))))))))))), (.mk 0 0 .nil)⟩
/-- a call of function 63 -/
noncomputable def m1 : Mem := ⟨(.one (.s 11 117418047814641095350644596) (.one (.s 1 32) .nil)), ZH.none, (.li false (.one (.s 5 117418047814641095350644596) (.one (.s 1 417152704609) (.one (.s 1 6365245) (.one (.s 1 97) .nil))))), (.mk 0 0 .nil)⟩
/-- a call of function 63 -/
noncomputable def m2 : Mem := ⟨(.one (.s 11 118626973634537199502061428) (.one (.s 1 32) .nil)), ZH.none, (.li false (.one (.s 5 118626973634537199502061428) (.one (.s 1 421447671906) (.one (.s 1 6430781) (.one (.s 1 98) .nil))))), (.mk 0 0 .nil)⟩
/-- a call of function 63 -/
noncomputable def m3 : Mem := ⟨(.one (.s 15 250253905580951214437820270329295476) (.one (.s 1 32) .nil)), ZH.none, (.li false (.one (.s 6 250253905580951214437820270329295476) (.one (.s 1 3472970599729274999) (.one (.s 1 52993325801533) (.one (.s 4 808613980) .nil))))), (.mk 0 0 .nil)⟩
/-- a call of function 63 -/
noncomputable def m4 : Mem := ⟨(.one (.s 15 276128616501495092961160876304327539) (.one (.s 1 32) .nil)), ZH.none, (.li false (.one (.s 5 276128616501495092961160876304327539) (.one (.s 3 981005912953119338344) (.one (.s 1 228408238141) (.one (.s 3 3485233) .nil))))), (.mk 0 0 .nil)⟩
/-- a call of function 63 -/
noncomputable def m5 : Mem := ⟨(.one (.s 15 573128773245679577165045294133371763) (.one (.s 1 32) .nil)), ZH.none, (.li false (.one (.s 5 573128773245679577165045294133371763) (.one (.s 3 2036162432424076403823) (.one (.s 1 474081009725) (.one (.s 3 7233902) .nil))))), (.mk 0 0 .nil)⟩
/-- a call of function 63 -/
noncomputable def m6 : Mem := ⟨(.one (.s 20 664727382776638296017817233128812539663532979570) (.one (.s 1 32) .nil)), ZH.none, (.li false (.one (.s 4 664727382776638296017817233128812539663532979570) (.one (.s 1 604566032758737761485296899198886003) (.one (.s 1 9224945568218044456257582080061) (.one (.s 1 140761498538483344364281953) (.one (.s 1 2147850014320119390324) (.one (.s 1 32773590306398306) (.one (.s 1 500085301306) (.one (.s 3 7630696) .nil))))))))), (.mk 0 0 .nil)⟩
/-- a call of function 48 -/
noncomputable def m7 : Mem := ⟨(.one (.s 1 115) .nil), ZH.none, (.b true), (.mk 0 0 .nil)⟩
/-- a call of function 63 -/
noncomputable def m8 : Mem := ⟨(.one (.s 16 133444283165101635707821287404846478706) (.one (.s 1 32) .nil)), ZH.none, (.li false (.one (.s 4 133444283165101635707821287404846478706) (.one (.s 1 121366868520546300449333364) (.one (.s 1 1851911445931187445821) (.one (.s 1 28257926115893363) (.one (.s 1 431181733946) (.one (.s 3 6579311) .nil))))))), (.mk 0 0 .nil)⟩
/-- a call of function 48 -/
noncomputable def m9 : Mem := ⟨(.one (.s 1 116) .nil), ZH.none, (.b true), (.mk 0 0 .nil)⟩
/-- a call of function 63 -/
noncomputable def m10 : Mem := ⟨(.one (.s 8 4404648118057727346) (.one (.s 1 32) .nil)), ZH.none, (.li false (.one (.s 4 4404648118057727346) (.one (.s 1 4006004) (.one (.s 1 61) .nil)))), (.mk 0 0 .nil)⟩
/-- a call of function 63 -/
noncomputable def m11 : Mem := ⟨(.one (.s 11 150059710186483801339623795) (.one (.s 1 32) .nil)), ZH.none, (.li false (.one (.s 4 150059710186483801339623795) (.one (.s 4 136478511364188) (.one (.s 1 124) .nil)))), (.mk 0 0 .nil)⟩
/-- a call of function 63 -/
noncomputable def m12 : Mem := ⟨(.one (.s 6 55186579546477) (.one (.s 1 32) .nil)), ZH.none, (.li false (.one (.s 3 55186579546477) (.one (.s 2 12849) .nil))), (.mk 0 0 .nil)⟩
/-- a call of function 63 -/
noncomputable def m13 : Mem := ⟨(.one (.s 0 0) (.one (.s 1 32) .nil)), ZH.none, (.li false (.one (.s 0 0) .nil)), (.mk 0 0 .nil)⟩
/-- a call of function 48 -/
noncomputable def m14 : Mem := ⟨(.one (.s 1 97) .nil), ZH.none, (.b true), (.mk 0 0 .nil)⟩
/-- a call of function 28 -/
noncomputable def m15 : Mem := ⟨(.one (.s 1 97) .nil), ZH.none, (.tu (.one (.ag (.one (.i 9223372036854775809) (.one (.u 3 0) (.one (.u 3 8589934592) (.one (.u 3 0) (.one (.u 3 0) (.one (.li true .nil) .nil))))))) (.one (.i 9223372036854775808) .nil))), (.mk 5 0 (.nd (.obj (.one (.i 9223372036854775809) (.one (.u 3 0) (.one (.u 3 8589934592) (.one (.u 3 0) (.one (.u 3 0) (.one (.li true .nil) .nil))))))) (.nd (.obj (.one (.i 9223372036854775808) .nil)) (.nd (.arr false 6 1 (.one (.ag (.one (.i 9223372036854775809) (.one (.u 3 0) (.one (.u 3 8589934592) (.one (.u 3 0) (.one (.u 3 0) (.one (.li true .nil) .nil))))))) .nil)) .nil .nil) .nil) (.nd (.obj (.one (.s 0 0) (.one (.i 9223372036854775808) .nil))) (.nd (.arr false 6 1 (.one (.ag (.one (.i 9223372036854775809) (.one (.u 3 0) (.one (.u 3 8589934592) (.one (.u 3 0) (.one (.u 3 0) (.one (.li true .nil) .nil))))))) .nil)) .nil .nil) .nil)))⟩
/-- a call of function 48 -/
noncomputable def m16 : Mem := ⟨(.one (.s 1 98) .nil), ZH.none, (.b true), (.mk 0 0 .nil)⟩
/-- a call of function 34 -/
noncomputable def m17 : Mem := ⟨(.one (.s 1 98) .nil), ZH.none, (.tu (.one (.ag (.one (.u 3 0) (.one (.u 3 17179869184) (.one (.u 3 0) (.one (.u 3 0) .nil))))) (.one (.i 9223372036854775809) (.one (.i 9223372036854775808) .nil)))), (.mk 0 0 .nil)⟩
/-- a call of function 48 -/
noncomputable def m18 : Mem := ⟨(.one (.s 1 119) .nil), ZH.none, (.b true), (.mk 0 0 .nil)⟩
/-- a call of function 28 -/
noncomputable def m19 : Mem := ⟨(.one (.s 4 808613980) .nil), ZH.none, (.tu (.one (.ag (.one (.i 9223372036854775809) (.one (.u 3 4294967296) (.one (.u 3 0) (.one (.u 3 0) (.one (.u 3 0) (.one (.li true .nil) .nil))))))) (.one (.i 9223372036854775808) .nil))), (.mk 5 0 (.nd (.obj (.one (.i 9223372036854775809) (.one (.u 3 4294967296) (.one (.u 3 0) (.one (.u 3 0) (.one (.u 3 0) (.one (.li true .nil) .nil))))))) (.nd (.obj (.one (.i 9223372036854775808) .nil)) (.nd (.arr false 6 1 (.one (.ag (.one (.i 9223372036854775809) (.one (.u 3 4294967296) (.one (.u 3 0) (.one (.u 3 0) (.one (.u 3 0) (.one (.li true .nil) .nil))))))) .nil)) .nil .nil) .nil) (.nd (.obj (.one (.s 0 0) (.one (.i 9223372036854775808) .nil))) (.nd (.arr false 6 1 (.one (.ag (.one (.i 9223372036854775809) (.one (.u 3 4294967296) (.one (.u 3 0) (.one (.u 3 0) (.one (.u 3 0) (.one (.li true .nil) .nil))))))) .nil)) .nil .nil) .nil)))⟩
/-- a call of function 48 -/
noncomputable def m20 : Mem := ⟨(.one (.s 3 7630696) .nil), ZH.none, (.b true), (.mk 0 0 .nil)⟩
/-- a call of function 23 -/
noncomputable def m21 : Mem := ⟨(.one (.s 3 3485233) .nil), ZH.none, (.tu (.one (.x (.flt .f64 4609434218613702656)) (.one (.i 9223372036854775808) .nil))), (.mk 0 0 .nil)⟩
/-- a call of function 48 -/
noncomputable def m22 : Mem := ⟨(.one (.s 3 6579311) .nil), ZH.none, (.b true), (.mk 0 0 .nil)⟩
/-- a call of function 34 -/
noncomputable def m23 : Mem := ⟨(.one (.s 4 1630566492) .nil), ZH.none, (.tu (.one (.ag (.one (.u 3 1024) (.one (.u 3 0) (.one (.u 3 0) (.one (.u 3 0) .nil))))) (.one (.i 9223372036854775812) (.one (.i 9223372036854775808) .nil)))), (.mk 0 0 .nil)⟩
/-- a call of function 63 -/
noncomputable def m24 : Mem := ⟨(.one (.s 6 11469264220020) (.one (.s 1 10) .nil)), ZH.none, (.li false (.one (.s 5 11469264220020) (.one (.s 0 0) .nil))), (.mk 0 0 .nil)⟩
/-- a call of function 63 -/
noncomputable def m25 : Mem := ⟨(.one (.s 5 474147942260) (.one (.s 1 32) .nil)), ZH.none, (.li false (.one (.s 5 474147942260) .nil)), (.mk 0 0 .nil)⟩
/-- a call of function 87 -/
noncomputable def m26 : Mem := ⟨(.one (.ag (.run 5 4 158456325028528675187087900672 .nil)) .nil), ZH.none, (.s 1 97), (.mk 0 0 .nil)⟩
/-- a call of function 87 -/
noncomputable def m27 : Mem := ⟨(.one (.ag (.run 5 4 316912650057057350374175801344 .nil)) .nil), ZH.none, (.s 1 98), (.mk 0 0 .nil)⟩
/-- a call of function 87 -/
noncomputable def m28 : Mem := ⟨(.one (.ag (.run 5 4 4294967296 .nil)) .nil), ZH.none, (.s 4 2283508511470312041172108124594929793976399964), (.mk 0 0 .nil)⟩
/-- a call of function 87 -/
noncomputable def m29 : Mem := ⟨(.one (.ag (.run 5 4 1024 .nil)) .nil), ZH.none, (.s 4 1888873969288064563292), (.mk 0 0 .nil)⟩
/-- a call of function 63 -/
noncomputable def m30 : Mem := ⟨(.one (.s 10 458664249295732837479794) (.one (.s 1 32) .nil)), ZH.none, (.li false (.one (.s 4 458664249295732837479794) (.one (.s 1 417152704627) (.one (.s 1 6365245) (.one (.s 1 97) .nil))))), (.mk 0 0 .nil)⟩
/-- a call of function 63 -/
noncomputable def m31 : Mem := ⟨(.one (.s 8 7070787893520660851) (.one (.s 1 32) .nil)), ZH.none, (.li false (.one (.s 4 7070787893520660851) (.one (.s 1 6430844) (.one (.s 1 98) .nil)))), (.mk 0 0 .nil)⟩
noncomputable def lk1 : Nat → ZE := natsZ [(23, .mem (memF [m21]) a23 n23.1 n23.2), (28, .mem (memF [m15, m19]) a28 n28.1 n28.2), (34, .mem (memF [m17, m23]) a34 n34.1 n34.2), (48, .mem (memF [m7, m9, m14, m16, m18, m20, m22]) a48 n48.1 n48.2), (63, .mem (memF [m0, m1, m2, m3, m4, m5, m6, m8, m10, m11, m12, m13, m24, m25, m30, m31]) a63 n63.1 n63.2), (87, .mem (memF [m26, m27, m28, m29]) a87 n87.1 n87.2)] zs
/-- a call of function 28 -/
noncomputable def m32 : Mem := ⟨(.one (.s 1 98) .nil), ZH.none, (.tu (.one (.ag (.one (.i 9223372036854775809) (.one (.u 3 0) (.one (.u 3 17179869184) (.one (.u 3 0) (.one (.u 3 0) (.one (.li true .nil) .nil))))))) (.one (.i 9223372036854775808) .nil))), (.mk 5 0 (.nd (.obj (.one (.i 9223372036854775809) (.one (.u 3 0) (.one (.u 3 17179869184) (.one (.u 3 0) (.one (.u 3 0) (.one (.li true .nil) .nil))))))) (.nd (.obj (.one (.i 9223372036854775808) .nil)) (.nd (.arr false 6 1 (.one (.ag (.one (.i 9223372036854775809) (.one (.u 3 0) (.one (.u 3 17179869184) (.one (.u 3 0) (.one (.u 3 0) (.one (.li true .nil) .nil))))))) .nil)) .nil .nil) .nil) (.nd (.obj (.one (.s 0 0) (.one (.i 9223372036854775808) .nil))) (.nd (.arr false 6 1 (.one (.ag (.one (.i 9223372036854775809) (.one (.u 3 0) (.one (.u 3 17179869184) (.one (.u 3 0) (.one (.u 3 0) (.one (.li true .nil) .nil))))))) .nil)) .nil .nil) .nil)))⟩
noncomputable def lk2 : Nat → ZE := natsZ [(23, .mem (memF [m21]) a23 n23.1 n23.2), (28, .mem (memF [m15, m19, m32]) a28 n28.1 n28.2), (34, .mem (memF [m17, m23]) a34 n34.1 n34.2), (48, .mem (memF [m7, m9, m14, m16, m18, m20, m22]) a48 n48.1 n48.2), (63, .mem (memF [m0, m1, m2, m3, m4, m5, m6, m8, m10, m11, m12, m13, m24, m25, m30, m31]) a63 n63.1 n63.2), (87, .mem (memF [m26, m27, m28, m29]) a87 n87.1 n87.2)] zs
noncomputable def lkB : Nat → ZE := natsZ [(88, onceZ), (23, .mem (memF [m21]) a23 n23.1 n23.2), (28, .mem (memF [m15, m19, m32]) a28 n28.1 n28.2), (34, .mem (memF [m17, m23]) a34 n34.1 n34.2), (48, .mem (memF [m7, m9, m14, m16, m18, m20, m22]) a48 n48.1 n48.2), (63, .mem (memF [m0, m1, m2, m3, m4, m5, m6, m8, m10, m11, m12, m13, m24, m25, m30, m31]) a63 n63.1 n63.2), (87, .mem (memF [m26, m27, m28, m29]) a87 n87.1 n87.2)] zs
end Ey.Gn
